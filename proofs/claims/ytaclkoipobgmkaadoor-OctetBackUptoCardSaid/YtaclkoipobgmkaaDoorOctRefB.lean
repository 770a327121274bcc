/-
  OCTET, THE DOCUMENT's CURSOR, B: numbers of some bytes, the number that stands there.
-/
import Derived.Test.YtaclkoipobgmkaaDoorOctRefA
namespace Go.Proofs.YtaclkoipobgmkaaDoor
open Go.RowKit
attribute [local go_sem] Old.refl Old.alloc Old.drew Old.setCell OldW.old

variable {l : List Int} {p c : Nat} {e : Int} {w : World}
theorem lowN_drop {l : List Int} {k : Nat} (h : k < l.length) : lowN (l.drop k) = (ix l k).toNat + 256 * lowN (l.drop (k + 1)) := by
  rw [List.drop_eq_getElem_cons h, ix_get h]; rfl
theorem lowN_drop_lt {l : List Int} (hb : Byt l) : ∀ (d k : Nat), l.length - k = d → lowN (l.drop k) < 256 ^ d
  | 0, k, h => by rw [List.drop_eq_nil_of_le (by omega)]; simp [lowN]
  | d + 1, k, h => by
    have hk : k < l.length := by omega
    have h1 := lowN_drop_lt hb d (k + 1) (by omega)
    have h2 := hb k hk
    rw [lowN_drop hk, Nat.pow_succ]
    omega
set_option maxHeartbeats 800000 in
theorem RFixed_any (h : Cur w c l p e) (hb : Byt l) (hz : l.length ≤ 140737488355328) (n : Int) (hn0 : 0 ≤ n) (hn1 : n ≤ 4) :
    Calls Tryd.prog 48 #[.pointer (some ⟨c, 0, none⟩), .int .i64 n] w (RetCur .u64 c l w (lowN (takeC l p e n).1 : Nat) (takeC l p e n).2.1 (takeC l p e n).2.2) := by
  have Ct := Lib.hid (RTake_any h hz n (by omega) (by omega))
  have hbl := takeC_byt hb h.le e n
  have hll := takeC_len (l := l) (p := p) (e := e) hn0
  clear h
  generalize (takeC l p e n).1 = L at *
  generalize (takeC l p e n).2.1 = p' at *
  generalize (takeC l p e n).2.2 = e' at *
  go_enter Tryd.func48, Tryd.ntmps48
  go_wp2_with (go_at_call 53; refine Ct.out.mono ?_; rintro r w1 ⟨v, rfl, hv, hc, ho⟩; obtain ⟨a, cap, b, off, rfl, hcap1, hcap2, ha, ht0⟩ := hv.nums)
  go_loopw [6, 7] (fun x j wr => ∃ (k : Nat), k ≤ L.length ∧ j = .int .i64 ((k : Int) - 1) ∧ x = .int .u64 (lowN (L.drop k) : Nat) ∧ w1 = wr) (fun _ j _ => (intOf j + 1).toNat)
  case atStart => exact ⟨L.length, by omega, rfl, by rw [List.drop_length]; rfl, by trivial⟩
  case round =>
    obtain ⟨k, hk, rfl, rfl, rfl⟩ := hrel
    by_cases hlt : 0 < k
    · obtain ⟨i, rfl⟩ : ∃ i, k = i + 1 := ⟨k - 1, by omega⟩
      rw [show ((i + 1 : Nat) : Int) - 1 = (i : Int) from by omega]
      obtain rfl := ha (by omega)
      have hil : i < L.length := by omega
      have hbk := hbl i hil
      have htk := ht0 i hil w1 (Old.refl w1)
      have Hs := Lib.hid (lowN_drop hil)
      have hm := lowN_drop_lt hbl (L.length - (i + 1)) (i + 1) rfl
      have hpw : 256 ^ (L.length - (i + 1)) ≤ 256 ^ 3 := Nat.pow_le_pow_right (by decide) (by omega)
      have h24 : (256 : Nat) ^ 3 = 16777216 := by decide
      have hm2 : lowN (L.drop (i + 1)) < 16777216 := by omega
      clear ht0 ha hm hpw h24
      generalize lowN (L.drop (i + 1)) = M at *
      go_wp2_with fail
      go_roundw
      case rel => exact ⟨i, by omega, by go_num, by rw [Hs.out]; go_num, by trivial⟩
      case measure => simp [intOf]; try omega
    · obtain rfl : k = 0 := by omega
      clear ha ht0
      go_wp2_with fail
      go_ret
      exact RetCur.mk (by rw [List.drop_zero]) rfl rfl hc ho
theorem ret3n {a a' b b' : Int} (h : a = a') (k : b = b') : Ending.returned (.tuple #[.int .u64 a, .int .i64 b, .int .i64 0]) = .returned (.tuple #[.int .u64 a', .int .i64 b', .int .i64 0]) := by rw [h, k]
theorem read_sum {m X i : Nat} (hxm : X % 128 * 2 ^ (7 * i) < 18446744073709551616) (hsum : m + X % 128 * 2 ^ (7 * i) < 18446744073709551616) :
    IntKind.u64.wrap ((m : Int) + IntKind.u64.wrap ((X : Int) % 128 * 2 ^ (7 * i))) = ((m + X % 128 * 2 ^ (7 * i) : Nat) : Int) := by
  have e : (X : Int) % 128 * 2 ^ (7 * i) = ((X % 128 * 2 ^ (7 * i) : Nat) : Int) := by push_cast; rfl
  rw [e]
  generalize X % 128 * 2 ^ (7 * i) = Y at *
  rw [wrap_u64, wrap_u64]
  omega
set_option maxRecDepth 100000 in
set_option maxHeartbeats 1600000 in
theorem read_any (h : Cur w c l p e) (hb : Byt l) (hz : l.length ≤ 140737488355328) :
    Calls Tryd.prog 61 #[.pointer (some ⟨c, 0, none⟩)] w fun r w' => r = .returned (.tuple #[.int .u64 ((num l p 0 0).1 : Nat), .int .i64 ((num l p 0 0).2.1 : Nat), .int .i64 (num l p 0 0).2.2]) ∧ Old w w' := by
  have Hc := Lib.hid h
  have hle := h.le
  have h1 := later h.at1
  obtain ⟨a, cap, h0, hr, _⟩ := h.row
  have h0' := later h0
  obtain ⟨_, _, b, off, e0, hc1, hc2, ha, ht0⟩ := hr
  obtain ⟨rfl, _, rfl⟩ := Value.slice.inj e0
  clear h h0 e0
  go_enter Tryd.func61, Tryd.ntmps61
  go_wp2_with fail
  go_loopw [5, 6] (fun n j wr => ∃ (i m : Nat), i ≤ 10 ∧ p + i ≤ l.length ∧ j = .int .i64 i ∧ n = .int .u64 m ∧ m < 2 ^ (7 * i) ∧ m < 18446744073709551616 ∧ num l p i m = num l p 0 0 ∧ Old w wr) (fun _ j _ => l.length - (intOf j).toNat)
  case atStart => exact ⟨0, 0, by omega, by omega, rfl, rfl, by decide, by omega, rfl, Old.refl _⟩
  case round =>
    obtain ⟨i, m, hi, hpi, rfl, rfl, hm, hm64, hat, hold⟩ := hrel
    have Hat := Lib.hid hat
    have Hm := Lib.hid hm
    clear hat hm
    by_cases hlt : p + i < l.length
    · have Hleft := Lib.hid (fun W (o : Old w W) => RLeft_any (Hc.out.old o) (by omega))
      have hx := hb (p + i) hlt
      have htx := ht0 (p + i) hlt
      obtain rfl := ha (by omega)
      have hli : decide ((i : Int) < (l.length : Int) - p) = true := by simp; omega
      clear ha ht0
      obtain ⟨X, hX⟩ := Int.eq_ofNat_of_zero_le hx.1
      have hXn : (ix l (p + i)).toNat = X := by rw [hX]; rfl
      rw [hX] at hx htx
      by_cases hf : 9 < i ∨ (i = 9 ∧ 1 < X)
      · have Hn := Lib.hid (num_form (n := m) hlt (by rw [hXn]; exact hf))
        go_wp2_with (go_at_call 62; refine (Calls.old hold (Hleft.out _ hold)).mono ?_; rintro r w2 ⟨rfl, ho2⟩)
        refine wp_region_old ho2 (by kernel_rfl) (by kernel_rfl) ?_
        repeat (go_big_quiet_step (fail))
        refine wpQuiet_nil ?_
        rintro ⟨wq, hq⟩
        dsimp only
        go_wp2_with fail
        all_goals first
          | (exfalso; omega)
          | (go_ret3
             exact ⟨by rw [← Hat.out, Hn.out]; rfl, hq⟩)
      · have hxm : X % 128 * 2 ^ (7 * i) < 18446744073709551616 := by
          by_cases h9 : i = 9
          · subst h9
            exact Nat.lt_of_le_of_lt (Nat.mul_le_mul_right _ (show X % 128 ≤ 1 by omega)) (by decide)
          · exact Nat.lt_of_lt_of_le (Nat.mul_lt_mul_of_lt_of_le (show X % 128 < 128 by omega) (Nat.pow_le_pow_right (by decide) (show 7 * i ≤ 56 by omega)) (by decide)) (by decide)
        have hsum : m + X % 128 * 2 ^ (7 * i) < 18446744073709551616 := by
          have hm := Hm.out
          by_cases h9 : i = 9
          · subst h9
            have h1 : X % 128 * 2 ^ (7 * 9) ≤ 1 * 2 ^ (7 * 9) := Nat.mul_le_mul_right _ (show X % 128 ≤ 1 by omega)
            have h2 : (2 : Nat) ^ (7 * 9) = 9223372036854775808 := by decide
            omega
          · have h1 : X % 128 * 2 ^ (7 * i) ≤ 127 * 2 ^ (7 * i) := Nat.mul_le_mul_right _ (by omega)
            have h2 : 2 ^ (7 * i) ≤ 2 ^ 56 := Nat.pow_le_pow_right (by decide) (by omega)
            have h3 : (2 : Nat) ^ 56 = 72057594037927936 := by decide
            omega
        have Hgen := Lib.hid (read_sum hxm hsum)
        by_cases h128 : X < 128
        · have Hgen : Hid (IntKind.u64.wrap ((m : Int) + IntKind.u64.wrap ((X : Int) % 128 * 2 ^ (7 * i))) = ((m + X * 2 ^ (7 * i) : Nat) : Int)) := Lib.hid (by have h := Hgen.out; rw [show X % 128 = X from Nat.mod_eq_of_lt h128] at h; exact h)
          rw [show X % 128 = X from Nat.mod_eq_of_lt h128] at hsum hxm
          by_cases hz0 : X = 0 ∧ 0 < i
          · have Hn := Lib.hid (num_zero (n := m) hlt (by rw [hXn]; exact hf) (by rw [hXn]; exact hz0.1) hz0.2)
            go_wp2_with (go_at_call 62; refine (Calls.old hold (Hleft.out _ hold)).mono ?_; rintro r w2 ⟨rfl, ho2⟩)
            refine wp_region_old ho2 (by kernel_rfl) (by kernel_rfl) ?_
            repeat (go_big_quiet_step (fail))
            refine wpQuiet_nil ?_
            rintro ⟨wq, hq⟩
            dsimp only
            go_wp2_with fail
            all_goals first
              | (exfalso; omega)
              | (go_ret3
                 exact ⟨by rw [← Hat.out, Hn.out]; rfl, hq⟩)
          · have Hn := Lib.hid (num_last (n := m) hlt (by rw [hXn]; exact hf) (by rw [hXn]; exact h128) (by rw [hXn]; exact hz0))
            rw [hXn] at Hn
            go_wp2_with (go_at_call 62; refine (Calls.old hold (Hleft.out _ hold)).mono ?_; rintro r w2 ⟨rfl, ho2⟩)
            refine wp_region_old ho2 (by kernel_rfl) (by kernel_rfl) ?_
            repeat (go_big_quiet_step (fail))
            refine wpQuiet_nil ?_
            rintro ⟨wq, hq⟩
            dsimp only
            go_wp2_with fail
            all_goals first
              | (exfalso; omega)
              | (go_ret3
                 refine ⟨?_, hq⟩
                 rw [← Hat.out, Hn.out]
                 refine ret3n ?_ ?_
                 exact Hgen.out
                 simp only [Int.natCast_add]; rfl)
              | (have h9 : i = 9 := by omega
                 subst h9
                 go_ret3
                 refine ⟨?_, hq⟩
                 rw [← Hat.out, Hn.out]
                 refine ret3n ?_ rfl
                 have h2 : (2 : Nat) ^ (7 * 9) = 9223372036854775808 := by decide
                 rw [h2] at hsum
                 dsimp only
                 rw [h2, wrap_u64]; omega)
              | (have h9 : X = 0 := by omega
                 subst h9
                 go_ret3
                 refine ⟨?_, hq⟩
                 rw [← Hat.out, Hn.out]
                 refine ret3n ?_ ?_
                 (dsimp only; rw [wrap_u64, wrap_u64, Nat.zero_mul]; omega)
                 simp only [Int.natCast_add]; rfl)
        · have hi8 : i ≤ 8 := by omega
          have Hn := Lib.hid (num_more (n := m) hlt (by rw [hXn]; exact hf) (by rw [hXn]; exact h128))
          have hp7 : 2 ^ (7 * (i + 1)) = 128 * 2 ^ (7 * i) := by rw [show 7 * (i + 1) = 7 + 7 * i from by omega, Nat.pow_add]
          have hmul : X % 128 * 2 ^ (7 * i) ≤ 127 * 2 ^ (7 * i) := Nat.mul_le_mul_right _ (by omega)
          have Hmm := Lib.hid (show m + X % 128 * 2 ^ (7 * i) < 2 ^ (7 * (i + 1)) from by have := Hm.out; rw [hp7]; omega)
          clear hp7 hmul
          go_wp2_with (go_at_call 62; refine (Calls.old hold (Hleft.out _ hold)).mono ?_; rintro r w2 ⟨rfl, ho2⟩)
          refine wp_region_old ho2 (by kernel_rfl) (by kernel_rfl) ?_
          repeat (go_big_quiet_step (fail))
          refine wpQuiet_nil ?_
          rintro ⟨wq, hq⟩
          dsimp only
          go_wp2_with fail
          all_goals first
            | (exfalso; omega)
            | skip
          go_roundw
          case rel => exact ⟨i + 1, m + X % 128 * 2 ^ (7 * i), by omega, by omega, by go_num, by rw [Hgen.out], Hmm.out, by omega, by rw [← Hat.out, Hn.out, hXn], hq⟩
          case measure => simp [intOf]; omega
    · have Hn := Lib.hid (num_torn (n := m) hlt)
      have Hleft := Lib.hid (fun W (o : Old w W) => RLeft_any (Hc.out.old o) (by omega))
      have hli : decide ((i : Int) < (l.length : Int) - p) = false := by simp; omega
      go_wp2_with (first
        | (go_at_call 62; refine (Calls.old hold (Hleft.out _ hold)).mono ?_; rintro r w2 ⟨rfl, ho2⟩))
      all_goals first
        | (exfalso; omega)
        | (go_ret3
           exact ⟨by rw [← Hat.out, Hn.out]; rfl, ho2⟩)
end Go.Proofs.YtaclkoipobgmkaaDoor
