/-
  OCTET BURST: the walk.
-/
import Derived.Test.YtaclkoipobgmkaaDoorOctPlain2
import Derived.ChangeKeysEq
import Derived.StillTailTactics
import Derived.IntWalk
namespace Go.Proofs.YtaclkoipobgmkaaDoor
open Go.RowKit
attribute [local go_sem] Old.refl Old.alloc Old.drew Old.setCell OldW.old

def zero4 (a b c d : Nat) : Bool := a == 0 && b == 0 && c == 0 && d == 0
theorem eq_zero4 (a b c d : Nat) (V : World) : (Op.equalIn 10000 35 (.agg #[.int .u8 a, .int .u8 b, .int .u8 c, .int .u8 d]) (.agg #[.int .u8 0, .int .u8 0, .int .u8 0, .int .u8 0])).run Tryd.prog V = .ok (zero4 a b c d) V := by
  obtain ⟨i, hi⟩ : ∃ i, Tryd.prog.info? 5 = some i := Option.isSome_iff_exists.1 (by kernel_rfl)
  have hc : Tryd.prog.cellsOf 5 = 1 := by kernel_rfl
  rw [run_equalIn_array V 9999 _ _ Tryd.underlying35 hi, hc, show List.range 4 = [0, 1, 2, 3] from rfl]
  simp [Op.eqItems, go_sem]
  unfold zero4
  by_cases h0 : a = 0 <;> by_cases h1 : b = 0 <;> by_cases h2 : c = 0 <;> by_cases h3 : d = 0 <;> simp [h0, h1, h2, h3]
def xorB (x y : Int) : Int := ((x.toNat ^^^ y.toNat : Nat) : Int)
theorem xor_u8 (x y : Int) (hx : 0 ≤ x ∧ x ≤ 255) (hy : 0 ≤ y ∧ y ≤ 255) : bits .xor .u8 x y = xorB x y := by
  obtain ⟨a, rfl⟩ := Int.eq_ofNat_of_zero_le hx.1
  obtain ⟨b, rfl⟩ := Int.eq_ofNat_of_zero_le hy.1
  have ha : a < 256 := by omega
  have hb : b < 256 := by omega
  have h : a ^^^ b < 2 ^ 8 := Nat.xor_lt_two_pow ha hb
  have e : (BitVec.ofNat 8 a ^^^ BitVec.ofNat 8 b).toNat = a ^^^ b := by
    rw [BitVec.toNat_xor, BitVec.toNat_ofNat, BitVec.toNat_ofNat, Nat.mod_eq_of_lt (show a < 2 ^ 8 from ha), Nat.mod_eq_of_lt (show b < 2 ^ 8 from hb)]
  have e' : bits .xor .u8 (a : Int) (b : Int) = IntKind.u8.wrap (((BitVec.ofNat 8 a ^^^ BitVec.ofNat 8 b).toNat : Nat) : Int) := by
    simp only [bits, BitVec.ofInt_natCast]; rfl
  rw [e', e]
  simp only [IntKind.wrap, IntKind.bits, IntKind.signed, xorB, Int.toNat_natCast]
  simp
  omega
theorem xorB_lt {x y : Int} (hx : 0 ≤ x ∧ x ≤ 255) (hy : 0 ≤ y ∧ y ≤ 255) : 0 ≤ xorB x y ∧ xorB x y ≤ 255 := by
  have : x.toNat ^^^ y.toNat < 2 ^ 8 := Nat.xor_lt_two_pow (by omega) (by omega)
  unfold xorB
  omega
/-- b, the first i of four bytes from p on changed by Y -/
def burstL (b : List Int) (p : Nat) (Y : List Int) : Nat → List Int
  | 0 => b
  | i + 1 => (burstL b p Y i).set (p + i) (xorB (ix (burstL b p Y i) (p + i)) (ix Y i))
theorem burstL_len (b : List Int) (p : Nat) (Y : List Int) : ∀ i, (burstL b p Y i).length = b.length
  | 0 => rfl
  | i + 1 => by rw [burstL, List.length_set]; exact burstL_len b p Y i
theorem ix_set {l : List Int} {i j : Nat} {x : Int} (hj : j < l.length) : ix (l.set i x) j = if i = j then x else ix l j := by
  rw [ix_get (by rw [List.length_set]; exact hj), List.getElem_set, ix_get hj]
theorem burstL_ix {b : List Int} {p : Nat} {Y : List Int} : ∀ (i : Nat), p + i ≤ b.length → ∀ q, q < b.length → ix (burstL b p Y i) q = if p ≤ q ∧ q < p + i then xorB (ix b q) (ix Y (q - p)) else ix b q
  | 0, _, q, _ => by rw [burstL, if_neg (by omega)]
  | i + 1, h, q, hq => by
    rw [burstL, ix_set (by rw [burstL_len]; exact hq), burstL_ix i (by omega) (p + i) (by omega), burstL_ix i (by omega) q hq]
    by_cases e : p + i = q
    · subst e
      rw [if_pos rfl, if_neg (by omega), if_pos (by omega), show p + i - p = i by omega]
    · rw [if_neg e]
      by_cases h2 : p ≤ q ∧ q < p + i
      · rw [if_pos h2, if_pos (by omega)]
      · rw [if_neg h2, if_neg (by omega)]
theorem burstL_byt {b : List Int} (hb : Byt b) {p : Nat} {Y : List Int} (hY : Byt Y) {i : Nat} (h : p + i ≤ b.length) (hi : i ≤ Y.length) : Byt (burstL b p Y i) := by
  intro q hq
  rw [burstL_len] at hq
  rw [burstL_ix i h q hq]
  split
  · exact xorB_lt (hb q hq) (hY _ (by omega))
  · exact hb q hq
theorem nats_ix {l : List Int} {i : Nat} (h : i < l.length) : (nats l)[i]'(by simpa [nats] using h) = (ix l i).toNat := by
  rw [ix_get h]; simp [nats]
theorem burst_differs {b : List Int} (hb : Byt b) {p : Nat} (hp : p + 4 ≤ b.length) {y0 y1 y2 y3 : Nat} (h0 : y0 < 256) (h1 : y1 < 256) (h2 : y2 < 256) (h3 : y3 < 256) (hz : zero4 y0 y1 y2 y3 = false) :
    crcN (nats (burstL b p [(y0 : Int), y1, y2, y3] 4)) ≠ crcN (nats b) := by
  intro h
  have hl : (nats (burstL b p [(y0 : Int), y1, y2, y3] 4)).length = (nats b).length := by simp [nats, burstL_len]
  have hd := crcN_same hl h
  have e : List.zipWith (· ^^^ ·) (nats (burstL b p [(y0 : Int), y1, y2, y3] 4)) (nats b) = List.replicate p 0 ++ [y0, y1, y2, y3] ++ List.replicate (b.length - p - 4) 0 := by
    refine List.ext_getElem (by simp [nats, burstL_len]; omega) fun q hq1 hq2 => ?_
    have hq : q < b.length := by simp [nats, burstL_len] at hq1; exact hq1
    have hbq := hb q hq
    rw [List.getElem_zipWith, nats_ix (by rw [burstL_len]; exact hq), nats_ix hq, burstL_ix 4 hp q hq]
    by_cases hin : p ≤ q ∧ q < p + 4
    · rw [if_pos hin, List.getElem_append_left (by simp; omega), List.getElem_append_right (by simp; omega)]
      obtain ⟨j, rfl⟩ : ∃ j, q = p + j := ⟨q - p, by omega⟩
      have key : ∀ y : Nat, (xorB (ix b (p + j)) (y : Int)).toNat ^^^ (ix b (p + j)).toNat = y := fun y => by
        unfold xorB
        rw [Int.toNat_natCast, Int.toNat_natCast, Nat.xor_comm (ix b (p + j)).toNat, Nat.xor_assoc, Nat.xor_self, Nat.xor_zero]
      match j, hin with
      | 0, _ => simpa [ix, List.getD] using key y0
      | 1, _ => simpa [ix, List.getD] using key y1
      | 2, _ => simpa [ix, List.getD] using key y2
      | 3, _ => simpa [ix, List.getD] using key y3
      | j + 4, hin => omega
    · rw [if_neg hin, Nat.xor_self]
      by_cases hlt : q < p
      · rw [List.getElem_append_left (by simp; omega), List.getElem_append_left (by simp; omega), List.getElem_replicate]
      · rw [List.getElem_append_right (by simp; omega), List.getElem_replicate]
  rw [e] at hd
  obtain ⟨e0, e1, e2, e3⟩ := burst p _ h0 h1 h2 h3 hd
  subst e0 e1 e2 e3
  exact absurd hz (by decide)
theorem wrap64_small {x : Int} (h0 : -9223372036854775808 ≤ x) (h1 : x ≤ 9223372036854775807) : wrap64 x = x := by
  unfold wrap64; omega
theorem burst_at (x : Int) {n : Nat} (hn : 4 ≤ n) (hz : n ≤ 140737488351232) : ∃ p : Nat, (wrap64 (wrap64 (x.tmod ((n : Int) - 3) + n) - 3)).tmod ((n : Int) - 3) = (p : Int) ∧ p + 4 ≤ n := by
  have h1 : x.tmod ((n : Int) - 3) < (n : Int) - 3 := Int.tmod_lt_of_pos _ (by omega)
  have h2 : -((n : Int) - 3) < x.tmod ((n : Int) - 3) := by
    by_cases hx : 0 ≤ x
    · have := Int.tmod_nonneg (a := x) ((n : Int) - 3) hx
      omega
    · have h3 : x.tmod ((n : Int) - 3) = -((-x).tmod ((n : Int) - 3)) := by rw [Int.neg_tmod, Int.neg_neg]
      have := Int.tmod_lt_of_pos (-x) (b := (n : Int) - 3) (by omega)
      omega
  generalize x.tmod ((n : Int) - 3) = t at *
  rw [wrap64_small (x := t + n) (by omega) (by omega), wrap64_small (by omega) (by omega), Int.tmod_eq_emod_of_nonneg (by omega)]
  have h3 := Int.emod_nonneg (t + n - 3) (b := (n : Int) - 3) (by omega)
  have h4 := Int.emod_lt_of_pos (t + n - 3) (b := (n : Int) - 3) (by omega)
  exact ⟨((t + n - 3) % ((n : Int) - 3)).toNat, by omega, by omega⟩
set_option maxRecDepth 100000 in
set_option maxHeartbeats 1600000 in
theorem octetBurst_row_walk (W : World) (hT : Tabs W) (b : List Int) (v : Value) (hN : Nums .u8 W v b) (hb : Byt b) (hz : b.length ≤ 140737488351232) (at0 : Int) (_ : -9223372036854775808 ≤ at0 ∧ at0 ≤ 9223372036854775807)
    (y0 y1 y2 y3 : Nat) (h0 : y0 < 256) (h1 : y1 < 256) (h2 : y2 < 256) (h3 : y3 < 256) :
    Calls Tryd.prog 4 #[v, .int .i64 at0, .agg #[.int .u8 y0, .int .u8 y1, .int .u8 y2, .int .u8 y3]] W fun e w' => e = .returned (.bool true) ∧ Old W w' := by
  have Ha := Lib.hid (fun W' (o : Old W W') => awake_any W' (hT.old o))
  have HN := Lib.hid hN
  obtain ⟨a, cap, rfl, hc1, hc2⟩ := hN.form
  clear hN hT
  by_cases hl : b.length < 4
  · have hd : decide ((b.length : Int) < 4) = true := by simp; omega
    go_enter Tryd.func4, Tryd.ntmps4
    go_wp2_with fail
    refine (Ha.out _ (by go_simp)).mono ?_
    rintro e w1 ⟨rfl, o1⟩
    have o2 : Old W w1 := ((Old.refl W).alloc _).trans o1
    clear o1
    go_wp2_with fail
    go_ret
    exact ⟨rfl, o2⟩
  · have hd : decide ((b.length : Int) < 4) = false := by simp; omega
    by_cases hzz : zero4 y0 y1 y2 y3 = true
    · have Hz := Lib.hid (eq_zero4 y0 y1 y2 y3)
      have Hzz := Lib.hid hzz
      clear hzz
      go_enter Tryd.func4, Tryd.ntmps4
      go_wp2_with fail
      refine (Ha.out _ (by go_simp)).mono ?_
      rintro e w1 ⟨rfl, o1⟩
      have q0 := later (o1.cell (p := ⟨W.heap.size, 0, none⟩) (v := .int .u8 y0) (by simp [go_sem]))
      have q1 := later (o1.cell (p := ⟨W.heap.size, 1, none⟩) (v := .int .u8 y1) (by simp [go_sem]))
      have q2 := later (o1.cell (p := ⟨W.heap.size, 2, none⟩) (v := .int .u8 y2) (by simp [go_sem]))
      have q3 := later (o1.cell (p := ⟨W.heap.size, 3, none⟩) (v := .int .u8 y3) (by simp [go_sem]))
      have o2 : Old W w1 := ((Old.refl W).alloc _).trans o1
      have hz1 := Hz.out w1
      rw [Hzz.out] at hz1
      clear o1
      go_wp2_with fail
      go_ret
      exact ⟨rfl, o2⟩
    · have hzz := Bool.eq_false_iff.2 hzz
      have Hz := Lib.hid (eq_zero4 y0 y1 y2 y3)
      have Hzz := Lib.hid hzz
      clear hzz
      go_enter Tryd.func4, Tryd.ntmps4
      go_wp2_with fail
      refine (Ha.out _ (by go_simp)).mono ?_
      rintro e w1 ⟨rfl, o1⟩
      have q0 := later (o1.cell (p := ⟨W.heap.size, 0, none⟩) (v := .int .u8 y0) (by simp [go_sem]))
      have q1 := later (o1.cell (p := ⟨W.heap.size, 1, none⟩) (v := .int .u8 y1) (by simp [go_sem]))
      have q2 := later (o1.cell (p := ⟨W.heap.size, 2, none⟩) (v := .int .u8 y2) (by simp [go_sem]))
      have q3 := later (o1.cell (p := ⟨W.heap.size, 3, none⟩) (v := .int .u8 y3) (by simp [go_sem]))
      have o2 : Old W w1 := ((Old.refl W).alloc _).trans o1
      have hz1 := Hz.out w1
      rw [Hzz.out] at hz1
      have hdif := fun (p : Nat) (hp : p + 4 ≤ b.length) => burst_differs hb hp h0 h1 h2 h3 Hzz.out
      have Hdif0 := Lib.hid hdif
      clear o1 hdif
      go_wp2_with fail
      have hdif := Hdif0.out
      clear Hdif0
      obtain ⟨p, hp, hpl⟩ := burst_at at0 (n := b.length) (by omega) (by omega)
      rw [hp]
      clear hp hz1 Hzz
      refine (twin_any b _ w1 (HN.out.old o2) (by omega)).mono ?_
      rintro e w2 ⟨⟨v2, rfl, hv2⟩, ho2⟩
      obtain ⟨a2, c2, rfl, hc3, hc4⟩ := ownsRow_form hv2
      obtain ⟨g, rfl, hg0, hg1⟩ := hv2.block (by omega)
      generalize hY : [(y0 : Int), y1, y2, y3] = Y at *
      have HYl := Lib.hid (show Y.length = 4 from by rw [← hY]; rfl)
      have HYb := Lib.hid (show Byt Y from by
        rw [← hY]; intro i hi
        match i, hi with
        | 0, _ => simp [ix]; omega
        | 1, _ => simp [ix]; omega
        | 2, _ => simp [ix]; omega
        | 3, _ => simp [ix]; omega)
      have HYc := Lib.hid (show ∀ k, k < 4 → ∀ V, Old w1 V → V.cell? ⟨W.heap.size, k, none⟩ = some (.int .u8 (ix Y k)) from by
        rw [← hY]; intro k hk
        match k, hk with
        | 0, _ => exact q0
        | 1, _ => exact q1
        | 2, _ => exact q2
        | 3, _ => exact q3)
      have Hdif := Lib.hid hdif
      clear hY q0 q1 q2 q3 hdif
      go_wp2_with fail
      go_loopw [34] (fun j wr => ∃ (k : Nat), k ≤ 4 ∧ j = .int .i64 k ∧ OwnN .u8 5 w1 wr (.slice (some ⟨g, 0, none⟩) b.length c2) (burstL b p Y k) ∧ Old w1 wr) (fun j _ => 4 - (intOf j).toNat)
      case atStart => exact ⟨0, by omega, rfl, hv2, ho2⟩
      case round =>
        obtain ⟨k, hk, rfl, hown, hold⟩ := hrel
        by_cases hlt : k < 4
        · have hlen := burstL_len b p Y k
          have hcl := hown.cell (j := p + k) (by omega)
          have hfr := hown.frozen (p + k)
          have hby := burstL_byt hb HYb.out (p := p) (i := k) (by omega) (by rw [HYl.out]; omega) (p + k) (by omega)
          have hyy := HYb.out k (by rw [HYl.out]; omega)
          have Hst := Lib.hid (hown.drew.stored (p + k) (xorB (ix (burstL b p Y k) (p + k)) (ix Y k)))
          have Hx := Lib.hid (xor_u8 _ _ hby hyy)
          have Hsucc := Lib.hid (show burstL b p Y (k + 1) = (burstL b p Y k).set (p + k) (xorB (ix (burstL b p Y k) (p + k)) (ix Y k)) from rfl)
          have hyc := HYc.out k hlt
          have hi0 : 0 ≤ (p : Int) + k := by omega
          have hi1 : (p : Int) + k < b.length := by omega
          have hi2 : ((p : Int) + k).toNat = p + k := by omega
          have hgne : w1.heap.size ≤ g := hg0
          clear hlen
          generalize ix (burstL b p Y k) (p + k) = A at *
          generalize ix Y k = B at *
          go_wp2_with fail
          have hw : IntKind.i64.wrap ((p : Int) + k) = (p : Int) + k := IntWalk.i64_in _ (by omega)
          refine wp_region_still_tail 11 (by kernel_rfl) (by kernel_rfl) ?_
          simp only [List.take_succ_cons, List.take_zero, List.drop_succ_cons, List.drop_zero]
          repeat still_step
          refine wpStill_nil ?_
          rw [Hx.out]
          clear hw
          go_wp2_with fail
          go_roundw
          case rel => exact ⟨k + 1, by omega, by go_num, by rw [Hsucc.out]; exact Hst.out, hold.drew.setCell hgne _⟩
          case measure => simp [intOf]; omega
        · obtain rfl : k = 4 := by omega
          have hbb := burstL_byt hb HYb.out (p := p) (i := 4) hpl (by rw [HYl.out]; omega)
          have Hne := Lib.hid (show ((((crcN (nats (burstL b p Y 4)) : Nat) : Int) != ((crcN (nats b) : Nat) : Int))) = true from by
            have := Hdif.out p hpl
            rw [bne_iff_ne]; omega)
          have Hlen := Lib.hid (burstL_len b p Y 4)
          have HL := Lib.hid hown
          clear hlt
          go_wp2_with fail
          refine (Sum_any (burstL b p Y 4) _ _ HL.out.nums hbb).mono ?_
          rintro e w5 ⟨rfl, rfl⟩
          go_wp2_with fail
          refine (twin_any b _ wr (HN.out.old (o2.trans hold)) (by omega)).mono ?_
          rintro e w6 ⟨⟨v6, rfl, hv6⟩, ho6⟩
          go_wp2_with fail
          refine (Sum_any b _ _ hv6.nums hb).mono ?_
          rintro e w7 ⟨rfl, rfl⟩
          have hne := Hne.out
          go_wp2_with fail
          go_ret
          exact ⟨rfl, (o2.trans hold).trans ho6⟩
end Go.Proofs.YtaclkoipobgmkaaDoor
