/-
  OCTET ONE: the walk.
-/
import Derived.Test.YtaclkoipobgmkaaDoorOctPlain2
namespace Go.Proofs.YtaclkoipobgmkaaDoor
open Go.RowKit
attribute [local go_sem] Old.refl Old.alloc Old.drew Old.setCell OldW.old

set_option maxRecDepth 100000 in
set_option maxHeartbeats 1600000 in
theorem octetOne_row_walk (W : World) (hT : Tabs W) (b : List Int) (v : Value) (hN : Nums .u8 W v b) (hb : Byt b) (hz : b.length ≤ 140737488351232) (x : Nat) (hx : x < 18446744073709551616) (y : Nat) (hy : y < 18446744073709551616) :
    Calls Tryd.prog 3 #[v, .int .u64 x, .int .u64 y] W fun e w' => e = .returned (.bool true) ∧ Old W w' := by
  have Ha := Lib.hid (awake_any W hT)
  have HN := Lib.hid hN
  obtain ⟨a, cap, rfl, hc1, hc2⟩ := hN.form
  have Hag := Lib.hid (fun h => uint_again hb h)
  have hu64 := uintC_lt hb 0 0
  have hule := uintC_le hb (Nat.zero_le _) 0
  have Hpx := Lib.hid (puts_byt x)
  have Hpy := Lib.hid (puts_byt y)
  have hpx := puts_pos x
  have hpy := puts_pos y
  have Hxy := Lib.hid (puts_begin x y)
  have hlx := puts_len10 hx
  have hly := puts_len10 hy
  clear hN hT
  go_enter Tryd.func3, Tryd.ntmps3
  go_wp2_with fail
  refine Ha.out.mono ?_
  rintro e w1 ⟨rfl, o1⟩
  go_wp2_with fail
  refine (twin_any b _ w1 (HN.out.old o1) (by omega)).mono ?_
  rintro e w2 ⟨⟨v2, rfl, hv2⟩, ho2⟩
  go_wp2_with fail
  refine (New_any b _ w2 hv2.nums (by omega)).mono ?_
  rintro e w3 ⟨⟨c, rfl, hcw, hc⟩, ho3⟩
  have o3 : Old W w3 := (o1.trans ho2).trans ho3
  have hcw' : W.heap.size ≤ c := Nat.le_trans (o1.trans ho2).size hcw
  have Hc := Lib.hid hc
  clear hc hv2 ho2 ho3 o1
  go_wp2_with fail
  refine (Uint_any Hc.out hb (by omega)).mono ?_
  rintro e w4 ⟨rfl, hc4, ho4⟩
  have o4 : Old W w4 := ho4.base o3 hcw'
  have Hc4 := Lib.hid hc4
  have HN4 := Lib.hid (HN.out.old o4)
  clear hc4 ho4 o3
  go_wp2_with fail
  refine (Err_any Hc4.out).mono ?_
  rintro e w5 ⟨rfl, rfl⟩
  have Hxy' := Lib.hid (show x = y ∨ (¬ x = y ∧ ((puts y).length < (puts x).length ∨ (¬ (puts y).length < (puts x).length ∧ ¬ puts x = (puts y).take (puts x).length))) from by
    have h0 := Hxy.out
    rcases Nat.lt_or_ge (puts y).length (puts x).length with h1 | h1
    · by_cases h2 : x = y
      · exact .inl h2
      · exact .inr ⟨h2, .inl h1⟩
    · by_cases h2 : x = y
      · exact .inl h2
      · exact .inr ⟨h2, .inr ⟨by omega, fun h3 => h2 (h0 h1 h3)⟩⟩)
  clear Hxy
  generalize (uintC b 0 0).1 = n at *
  generalize (uintC b 0 0).2.1 = p at *
  generalize (uintC b 0 0).2.2 = er at *
  by_cases he : er = 0
  case' pos =>
    subst he
    obtain ⟨hpn, hple⟩ := Hag.out rfl
    have Hpn := Lib.hid hpn
    have Hpnb := Lib.hid (puts_byt n)
    clear hpn Hag
    go_wp2_with fail
    refine (PutUint_any [] _ n w4 (Nums.nil w4) (by decide) hu64).mono ?_
    rw [List.nil_append]
    rintro e w5 ⟨⟨v5, rfl, hv5⟩, ho5⟩
    go_wp2_with fail
    refine (At_any (Hc4.out.old ho5)).mono ?_
    rintro e w6 ⟨rfl, rfl⟩
    go_wp2_with fail
    rw [show (min (b.length : Int) (p : Int)).toNat = p from by omega]
    refine (same_any (puts n) (b.take p) _ _ _ hv5.nums ((HN4.out.old ho5).take hple) Hpnb.out (hb.take p)).mono ?_
    rw [Hpn.out, eqL_self]
    rintro e w7 ⟨rfl, h7⟩
    have o7 : Old W w7 := by rw [← h7]; exact o4.trans ho5
    clear h7 hv5 ho5 Hpn Hpnb
  case' neg =>
    have hb1 : (er == 0) = false := by rw [beq_eq_false_iff_ne]; exact he
    have o7 := o4
    clear he Hag
  all_goals
    go_wp2_with fail
    refine (PutUint_any [] _ x _ (Nums.nil _) (by decide) hx).mono ?_
    rw [List.nil_append]
    rintro e w8 ⟨⟨v8, rfl, hv8⟩, ho8⟩
    have o8 := o7.trans ho8
    go_wp2_with fail
    refine (PutUint_any [] _ y _ (Nums.nil _) (by decide) hy).mono ?_
    rw [List.nil_append]
    rintro e w9 ⟨⟨v9, rfl, hv9⟩, ho9⟩
    have o9 := o8.trans ho9
    have Hv8 := Lib.hid (hv8.old ho9)
    have Hv9 := Lib.hid hv9
    obtain ⟨a8, c8, rfl, hc8, hc8'⟩ := ownsRow_form hv8
    obtain ⟨a9, c9, rfl, hc9, hc9'⟩ := ownsRow_form hv9
    clear hv8 hv9 ho8 ho9 o8 o7
    have hl1 : (((puts x).length : Int) == 0) = false := by rw [beq_eq_false_iff_ne]; omega
    have hl2 : (((puts y).length : Int) == 0) = false := by rw [beq_eq_false_iff_ne]; omega
    rcases Hxy'.out with hq | ⟨hne, hlen | ⟨hlen, htk⟩⟩
    · have hq' : ((x : Int) == (y : Int)) = true := by rw [beq_iff_eq]; omega
      clear hq Hxy'
      go_wp2_with fail
      go_ret
      exact ⟨rfl, o9⟩
    · have hq' : ((x : Int) == (y : Int)) = false := by rw [beq_eq_false_iff_ne]; omega
      have hd : decide ((puts y).length < (puts x).length) = true := by simpa using hlen
      clear hne Hxy'
      go_wp2_with fail
      go_ret
      exact ⟨rfl, o9⟩
    · have hq' : ((x : Int) == (y : Int)) = false := by rw [beq_eq_false_iff_ne]; omega
      have hd : decide ((puts y).length < (puts x).length) = false := by simpa using hlen
      have hle : (puts x).length ≤ (puts y).length := by omega
      have Htk := Lib.hid (eqL_ne htk)
      clear hne Hxy' htk
      go_wp2_with fail
      refine (same_any (puts x) ((puts y).take (puts x).length) _ _ _ Hv8.out.nums (Hv9.out.nums.take hle) Hpx.out (Hpy.out.take _)).mono ?_
      rw [Htk.out]
      rintro e w10 ⟨rfl, rfl⟩
      go_wp2_with fail
      go_ret
      exact ⟨rfl, o9⟩
end Go.Proofs.YtaclkoipobgmkaaDoor
