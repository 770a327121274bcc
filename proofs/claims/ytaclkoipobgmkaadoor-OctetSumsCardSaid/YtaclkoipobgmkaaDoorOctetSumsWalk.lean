/-
  OCTET SUMS: the walk.
-/
import Derived.Test.YtaclkoipobgmkaaDoorOctetBurstWalk
import Derived.Deep.RegionHeld3
import Derived.Deep.AppendLies
import Derived.OwnWalk
import Derived.Deep.DeepCutAuto
namespace Go.Proofs.YtaclkoipobgmkaaDoor
open Go.RowKit
attribute [local go_sem] Old.refl Old.alloc Old.drew Old.setCell OldW.old

/-- the first k of three lists' exclusive-or -/
def sum3 (a b c : List Int) (k : Nat) : List Int := (List.range k).map fun i => xorB (xorB (ix a i) (ix b i)) (ix c i)
theorem sum3_len (a b c : List Int) (k : Nat) : (sum3 a b c k).length = k := by simp [sum3]
theorem sum3_succ (a b c : List Int) (k : Nat) : sum3 a b c (k + 1) = sum3 a b c k ++ [xorB (xorB (ix a k) (ix b k)) (ix c k)] := by simp [sum3, List.range_succ]
theorem sum3_ix (a b c : List Int) {k i : Nat} (h : i < k) : ix (sum3 a b c k) i = xorB (xorB (ix a i) (ix b i)) (ix c i) := by simp [ix, sum3, List.getD, h]
theorem sum3_byt {a b c : List Int} (ha : Byt a) (hb : Byt b) (hc : Byt c) {k : Nat} (h1 : k ≤ a.length) (h2 : k ≤ b.length) (h3 : k ≤ c.length) : Byt (sum3 a b c k) := by
  intro i hi
  rw [sum3_len] at hi
  rw [sum3_ix a b c hi]
  exact xorB_lt (xorB_lt (ha i (by omega)) (hb i (by omega))) (hc i (by omega))
theorem ix_take {l : List Int} {k i : Nat} (h : i < k) : ix (l.take k) i = ix l i := by simp [ix, List.getD, h]
theorem sum3_crc {a b c : List Int} {k : Nat} (h1 : k ≤ a.length) (h2 : k ≤ b.length) (h3 : k ≤ c.length) :
    crcN (nats (sum3 a b c k)) = crcN (nats (a.take k)) ^^^ crcN (nats (b.take k)) ^^^ crcN (nats (c.take k)) := by
  rw [← crcN_three (by simp [nats]; omega) (by simp [nats]; omega)]
  congr 1
  refine List.ext_getElem (by simp [nats, sum3_len]; omega) fun i hi1 hi2 => ?_
  have hi : i < k := by simp [nats, sum3_len] at hi1; exact hi1
  rw [List.getElem_zipWith, List.getElem_zipWith, nats_ix (by rw [sum3_len]; exact hi), nats_ix (by rw [List.length_take]; omega), nats_ix (by rw [List.length_take]; omega), nats_ix (by rw [List.length_take]; omega)]
  rw [sum3_ix a b c hi, ix_take hi, ix_take hi, ix_take hi]
  simp only [xorB, Int.toNat_natCast]
theorem crcN_lt {l : List Int} (h : Byt l) : crcN (nats l) < 4294967296 := by
  have : crcS 4294967295 (nats l) < 4294967296 := by
    have := st_lt h l.length (Nat.le_refl _)
    rwa [st_all] at this
  exact Nat.xor_lt_two_pow (n := 32) (by decide) this
set_option maxRecDepth 100000 in
set_option maxHeartbeats 1600000 in
theorem octetSums_row_walk (W : World) (hT : Tabs W) (a : List Int) (va : Value) (hA : Nums .u8 W va a) (hba : Byt a) (hza : a.length ≤ 140737488351232) (b : List Int) (vb : Value) (hB : Nums .u8 W vb b) (hbb : Byt b) (hzb : b.length ≤ 140737488351232)
    (c : List Int) (vc : Value) (hC : Nums .u8 W vc c) (hbc : Byt c) (hzc : c.length ≤ 140737488351232) :
    Calls Tryd.prog 5 #[va, vb, vc] W fun e w' => e = .returned (.bool true) ∧ Old W w' := by
  have Ha := Lib.hid (awake_any W hT)
  have HA := Lib.hid hA
  have HB := Lib.hid hB
  have HC := Lib.hid hC
  obtain ⟨aa, ca, ba, oa, rfl, hca1, hca2, haa, hta⟩ := hA
  obtain ⟨ab, cb, bb, ob, rfl, hcb1, hcb2, hab, htb⟩ := hB
  obtain ⟨ac, cc, bc, oc, rfl, hcc1, hcc2, hac, htc⟩ := hC
  obtain ⟨i0, hi0, hz0, hz1, hz2⟩ := info_parts infoByte
  obtain ⟨n, hn⟩ : ∃ n, n = min (min a.length b.length) c.length := ⟨_, rfl⟩
  have hna : n ≤ a.length := by omega
  have hnb : n ≤ b.length := by omega
  have hnc : n ≤ c.length := by omega
  have Hn := Lib.hid hn
  clear hn
  go_enter Tryd.func5, Tryd.ntmps5
  go_wp2_with fail
  refine Ha.out.mono ?_
  rintro e w1 ⟨rfl, o1⟩
  go_upto_region 3 with fail
  go_cut [7] (fun x wx => x = .int .i64 n ∧ w1 = wx)
  case first =>
    go_wp2_with fail
    all_goals
      have hn := Hn.out
      go_meet
      exact ⟨by congr 1; omega, rfl⟩
  obtain ⟨rfl, rfl⟩ := hcut
  go_wp2_with fail
  go_loopw [8, 20] (fun x j wr => ∃ (k : Nat), k ≤ n ∧ j = .int .i64 k ∧ OwnN .u8 5 W wr x (sum3 a b c k) ∧ Old W wr) (fun _ j _ => n - (intOf j).toNat)
  case atStart => exact ⟨0, by omega, rfl, OwnN.nil _ _ _, o1⟩
  case round =>
    obtain ⟨k, hk, rfl, hown, hold⟩ := hrel
    by_cases hlt : k < n
    · obtain rfl := haa (by omega)
      obtain rfl := hab (by omega)
      obtain rfl := hac (by omega)
      have qa := hta k (by omega)
      have qb := htb k (by omega)
      have qc := htc k (by omega)
      have ya := hba k (by omega)
      have yb := hbb k (by omega)
      have yc := hbc k (by omega)
      have Hs := Lib.hid (sum3_succ a b c k)
      have Hl := Lib.hid (sum3_len a b c k)
      have ia : (k : Int) < a.length := by omega
      have ib : (k : Int) < b.length := by omega
      have ic : (k : Int) < c.length := by omega
      have Hx1 := Lib.hid (xor_u8 _ _ ya yb)
      have Hx2 := Lib.hid (xor_u8 _ _ (xorB_lt ya yb) yc)
      clear hta htb htc haa hab hac
      generalize ix a k = A at *
      generalize ix b k = B at *
      generalize ix c k = C at *
      have ra := qa wr hold
      have rb := qb wr hold
      have rc := qc wr hold
      go_wp2_with fail
      go_region_held3 (fun w' => w'.cell? ⟨ba, oa + k, none⟩ = some (.int .u8 A) ∧ w'.cell? ⟨bb, ob + k, none⟩ = some (.int .u8 B) ∧ w'.cell? ⟨bc, oc + k, none⟩ = some (.int .u8 C))
        (first
          | go_keep
          | (go_split_ands; exact ⟨qa _ HO, qb _ HO, qc _ HO⟩))
        ((rw [Hx1.out, Hx2.out]; refine step_append_lies _ (by rfl) _ _ _ (by rfl) W.heap.size 5 i0 _ 1 1 Tryd.underlying22 hi0 hz0 hz1 hz2 rfl (by omega) _ (sum3 a b c k).length ((sum3 a b c k).map (Value.int .u8)) (by rfl) ((hown.alloc _).drew)
              ⟨wr.heap.size, 0, none⟩ 1 1 [.int .u8 (xorB (xorB A B) C)] (by rfl) (by rfl) (World.news_of_block (cs := #[.int .u8 (xorB (xorB A B) C)]) (t := 5) (fr := (0, 0)) (heap_alloc_new wr _)) (by simp [Value.oneCell'])
              (by omega) (by rw [Hl.out]; simp [maxLen]; omega) (by rw [Hl.out]; omega) (by have := hold.size; simp; omega) (wr.heap.size + 1) (by simp) ?_; intro gg cap w1 hown1 hgrow hat hlt; have HO : Old W w1 := ((hold.alloc _).drew).grown hgrow (fun q hq => (World.ownsRow.lt hown q hq).1)))
      go_wp2_with fail
      go_roundw
      case rel => exact ⟨k + 1, by omega, by go_num, by
        unfold OwnN
        rw [Hs.out, List.map_append, List.length_append]
        exact hown1, HO⟩
      case measure => simp [intOf]; omega
    · obtain rfl : k = n := by omega
      have HL := Lib.hid hown
      have hb3 := sum3_byt hba hbb hbc hna hnb hnc
      have Hcrc := Lib.hid (sum3_crc hna hnb hnc)
      have ta := crcN_lt (hba.take k)
      have tb := crcN_lt (hbb.take k)
      have tc := crcN_lt (hbc.take k)
      have Hx1 := Lib.hid (xor_u32 _ _ ta tb)
      have Hx2 := Lib.hid (xor_u32 _ _ (Nat.xor_lt_two_pow (n := 32) ta tb) tc)
      have tk1 := True.intro
      have tk2 := True.intro
      have tk3 := True.intro
      have tk4 := True.intro
      have tk5 := True.intro
      have tk6 := True.intro
      clear hta htb htc haa hab hac
      go_wp2_with fail
      have ka0 : 0 ≤ (k : Int) := by omega
      have ka1 : (k : Int) ≤ ca := by omega
      have kb1 : (k : Int) ≤ cb := by omega
      have kc1 : (k : Int) ≤ cc := by omega
      go_region_held3 (fun _ => True) (trivial) (first
        | (go_at_call 17; clear tk1; refine (Sum_any (sum3 a b c k) _ _ HL.out.drew.nums hb3).mono ?_; rintro e w2 ⟨rfl, rfl⟩)
        | (go_at_call 11; clear tk2; refine (twin_any (a.take k) _ _ ((HA.out.old hold.drew).take hna) (by rw [List.length_take]; omega)).mono ?_; rintro e w3 ⟨⟨v3, rfl, hv3⟩, ho3⟩; have o3 := hold.drew.trans ho3)
        | (go_at_call 17; clear tk3; refine (Sum_any (a.take k) _ _ hv3.nums (hba.take k)).mono ?_; rintro e w4 ⟨rfl, rfl⟩)
        | (go_at_call 11; clear tk4; refine (twin_any (b.take k) _ _ ((HB.out.old o3).take hnb) (by rw [List.length_take]; omega)).mono ?_; rintro e w5 ⟨⟨v5, rfl, hv5⟩, ho5⟩; have o5 := o3.trans ho5)
        | (go_at_call 17; clear tk5; refine (Sum_any (b.take k) _ _ hv5.nums (hbb.take k)).mono ?_; rintro e w6 ⟨rfl, rfl⟩)
        | (go_at_call 11; clear tk6; refine (twin_any (c.take k) _ _ ((HC.out.old o5).take hnc) (by rw [List.length_take]; omega)).mono ?_; rintro e w7 ⟨⟨v7, rfl, hv7⟩, ho7⟩; have o7 := o5.trans ho7)
        | (go_at_call 17; refine (Sum_any (c.take k) _ _ hv7.nums (hbc.take k)).mono ?_; rintro e w8 ⟨rfl, rfl⟩))
      go_wp2_with fail
      go_ret
      exact ⟨ret_bool (by rw [Hx1.out, Hx2.out, ← Hcrc.out]; simp), o7⟩
end Go.Proofs.YtaclkoipobgmkaaDoor
