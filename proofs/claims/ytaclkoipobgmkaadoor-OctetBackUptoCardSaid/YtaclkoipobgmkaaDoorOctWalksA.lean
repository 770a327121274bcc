/-
  OCTET, WALKS A: the sum of bytes; lists in new memory.
-/
import Derived.Test.YtaclkoipobgmkaaDoorNums
import Derived.Test.YtaclkoipobgmkaaDoorCrc
import Derived.Test.YtaclkoipobgmkaaDoorProg
namespace Go.Proofs.YtaclkoipobgmkaaDoor
open Go.RowKit
attribute [local go_sem] Old.refl Old.alloc Old.drew Old.setCell OldW.old

/-- all bytes -/
def Byt (l : List Int) : Prop := ∀ i, i < l.length → 0 ≤ ix l i ∧ ix l i ≤ 255
def nats (l : List Int) : List Nat := l.map Int.toNat
/-- the sum's state behind the first k bytes -/
def st (l : List Int) (k : Nat) : Nat := crcS 4294967295 (nats (l.take k))
theorem ix_get {l : List Int} {k : Nat} (h : k < l.length) : ix l k = l[k] := by simp [ix, List.getD, h]
theorem st_zero (l : List Int) : st l 0 = 4294967295 := rfl
theorem st_succ {l : List Int} {k : Nat} (h : k < l.length) : st l (k + 1) = cby (st l k) (ix l k).toNat := by
  unfold st nats
  rw [List.take_succ_eq_append_getElem h, List.map_append, crcS_app, ix_get h]
  rfl
theorem st_lt {l : List Int} (hb : Byt l) : ∀ k, k ≤ l.length → st l k < 4294967296
  | 0, _ => by rw [st_zero]; omega
  | k + 1, h => by
    have := hb k h
    rw [st_succ h]
    exact cby_lt (st_lt hb k (by omega)) (by omega)
theorem st_all (l : List Int) : st l l.length = crcS 4294967295 (nats l) := by unfold st; rw [List.take_length]
theorem ret_u32 {a b : Int} (h : a = b) : Ending.returned (.int .u32 a) = .returned (.int .u32 b) := by rw [h]
theorem cb_odd {y : Nat} (h : y % 2 = 1) (hy : y < 4294967296) : bits .xor .u32 ((y : Int) / 2) 3988292384 = ((cb y : Nat) : Int) := by
  have e : ((y : Int) / 2) = ((y / 2 : Nat) : Int) := by omega
  rw [e, show (3988292384 : Int) = ((3988292384 : Nat) : Int) from rfl, xor_u32 _ _ (by omega) (by omega)]
  unfold cb
  rw [if_pos h]
theorem cb_even {y : Nat} (h : ¬ y % 2 = 1) : ((y : Int) / 2) = ((cb y : Nat) : Int) := by
  unfold cb
  rw [if_neg h]; omega

theorem and_one {y : Nat} (hy : y < 4294967296) : bits .and .u32 (y : Int) 1 = (y : Int) % 2 := by
  have := bits_mask .u32 32 (by decide) (fun n h h' => by rw [IntKind.wrap_u32]; omega) 1 (by decide) (y : Int) (by omega) (by omega)
  rwa [show (2 : Int) ^ 1 - 1 = 1 from by decide, show (2 : Int) ^ 1 = 2 from by decide] at this
set_option maxHeartbeats 1600000 in
theorem Sum_any (l : List Int) (v : Value) (w : World) (hT : Nums .u8 w v l) (hb : Byt l) :
    Calls Tryd.prog 17 #[v] w fun e w' => e = .returned (.int .u32 (crcN (nats l) : Nat)) ∧ w = w' := by
  obtain ⟨a, cap, b, off, rfl, hn1, hn2, ha, ht0⟩ := hT
  go_enter Tryd.func17, Tryd.ntmps17
  go_wp2_with fail
  go_loopw [3, 9] (fun r j wr => ∃ (k : Nat), k ≤ l.length ∧ j = .int .i64 k ∧ r = .int .u32 (st l k) ∧ w = wr) (fun _ j _ => l.length - (intOf j).toNat)
  case atStart => exact ⟨0, by omega, rfl, by rw [st_zero]; rfl, rfl⟩
  case round =>
    obtain ⟨k, hk, rfl, rfl, rfl⟩ := hrel
    have hs := st_lt hb k hk
    by_cases hlt : k < l.length
    · obtain rfl := ha (by omega)
      have hbk := hb k hlt
      have htk := ht0 k hlt w (Old.refl w)
      have Hx := Lib.hid (show bits .xor .u32 (st l k : Nat) (ix l k) = ((st l k ^^^ (ix l k).toNat : Nat) : Int) from by
        have := xor_u32 (st l k) (ix l k).toNat hs (by omega)
        rwa [Int.toNat_of_nonneg hbk.1] at this)
      have Hsucc := Lib.hid (st_succ hlt)
      have h0 : st l k ^^^ (ix l k).toNat < 4294967296 := Nat.xor_lt_two_pow (n := 32) hs (by omega)
      clear ht0
      go_wp2_with fail
      go_loopw [3, 17] (fun r j wr => ∃ (m : Nat), m ≤ 8 ∧ j = .int .i64 m ∧ r = .int .u32 (cbs m (st l k ^^^ (ix l k).toNat) : Nat) ∧ w = wr) (fun _ j _ => 8 - (intOf j).toNat)
      case atStart => exact ⟨0, by omega, rfl, by rw [Hx.out]; rfl, by trivial⟩
      case round =>
        obtain ⟨m, hm, rfl, rfl, rfl⟩ := hrel
        have hy := cbs_lt m h0
        have Hsn := Lib.hid (cbs_snoc m (st l k ^^^ (ix l k).toNat))
        have Hcby := Lib.hid (show cby (st l k) (ix l k).toNat = cbs 8 (st l k ^^^ (ix l k).toNat) from rfl)
        generalize st l k ^^^ (ix l k).toNat = z at *
        generalize hyz : cbs m z = y at *
        by_cases hm8 : m < 8
        · by_cases hp : y % 2 = 1
          · have Hc := Lib.hid (cb_odd hp hy)
            have hp' : (bits .and .u32 (y : Int) 1 == 1) = true := by rw [and_one hy, beq_iff_eq]; omega
            go_wp2_with fail
            go_roundw
            case rel => exact ⟨m + 1, by omega, by go_num, by rw [Hc.out, Hsn.out], by trivial⟩
            case measure => simp [intOf]; omega
          · have Hc := Lib.hid (cb_even hp)
            have hp' : (bits .and .u32 (y : Int) 1 == 1) = false := by rw [and_one hy, beq_eq_false_iff_ne]; omega
            go_wp2_with fail
            go_roundw
            case rel => exact ⟨m + 1, by omega, by go_num, by rw [Hc.out, Hsn.out], by trivial⟩
            case measure => simp [intOf]; omega
        · have hm9 : m = 8 := by omega
          have Hy := Lib.hid (show y = st l (k + 1) from by rw [Hsucc.out, Hcby.out, ← hm9, hyz])
          clear hm9 hyz
          go_wp2_with fail
          go_roundw
          case rel => exact ⟨k + 1, by omega, by go_num, by rw [Hy.out], by trivial⟩
          case measure => simp [intOf]; omega
    · obtain rfl : k = l.length := by omega
      have Hx := Lib.hid (show bits .xor .u32 IntKind.u32.max (st l l.length : Nat) = ((crcN (nats l) : Nat) : Int) from by
        have := xor_u32 4294967295 (st l l.length) (by omega) hs
        rw [show ((4294967295 : Nat) : Int) = IntKind.u32.max from rfl] at this
        rw [this, st_all]; rfl)
      go_wp2_with fail
      go_ret
      exact ⟨ret_u32 Hx.out, rfl⟩
end Go.Proofs.YtaclkoipobgmkaaDoor
