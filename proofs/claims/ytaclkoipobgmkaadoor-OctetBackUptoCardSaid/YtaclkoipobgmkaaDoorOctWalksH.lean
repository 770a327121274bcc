/-
  OCTET, WALKS H: numbers of some bytes; whole numbers; what lies within a limit.
-/
import Derived.Test.YtaclkoipobgmkaaDoorOctWalksG
namespace Go.Proofs.YtaclkoipobgmkaaDoor
open Go.RowKit
attribute [local go_sem] Old.refl Old.alloc Old.drew Old.setCell OldW.old

/-- the number of bytes, the lowest ahead -/
def lowN (l : List Int) : Nat := l.foldr (fun x a => x.toNat + 256 * a) 0
theorem lowN_append : ∀ (a b : List Int), lowN (a ++ b) = lowN a + 256 ^ a.length * lowN b
  | [], b => by simp [lowN]
  | x :: a, b => by
    have := lowN_append a b
    simp only [lowN, List.cons_append, List.foldr_cons, List.length_cons] at this ⊢
    rw [this, Nat.mul_add, Nat.pow_succ, ← Nat.mul_assoc, Nat.mul_comm 256 (256 ^ a.length), Nat.add_assoc]
theorem lowN_one (x : Int) : lowN [x] = x.toNat := by simp [lowN]
theorem lowN_succ {l : List Int} {k : Nat} (h : k < l.length) : lowN (l.take (k + 1)) = lowN (l.take k) + (ix l k).toNat * 2 ^ (8 * k) := by
  rw [List.take_succ_eq_append_getElem h, lowN_append, lowN_one, ← ix_get h, List.length_take, Nat.min_eq_left (by omega), show 256 ^ k = 2 ^ (8 * k) from by rw [Nat.pow_mul], Nat.mul_comm]
theorem lowN_lt {l : List Int} (hb : Byt l) : ∀ k, k ≤ l.length → lowN (l.take k) < 2 ^ (8 * k)
  | 0, _ => by simp [lowN]
  | k + 1, h => by
    rw [lowN_succ h]
    have h1 := lowN_lt hb k (by omega)
    have h2 := hb k h
    have h3 : (ix l k).toNat * 2 ^ (8 * k) ≤ 255 * 2 ^ (8 * k) := Nat.mul_le_mul_right _ (by omega)
    have h4 : 2 ^ (8 * (k + 1)) = 256 * 2 ^ (8 * k) := by rw [show 8 * (k + 1) = 8 + 8 * k from by omega, Nat.pow_add]
    omega
theorem wrap_u32' (n : Int) : IntKind.u32.wrap n = n % 4294967296 := by simp [IntKind.wrap, IntKind.bits, IntKind.signed]
theorem or_group32 {m i X : Nat} (hm : m < 2 ^ (8 * i)) (hX : X * 2 ^ (8 * i) < 4294967296) (hm64 : m < 4294967296) :
    bits .or .u32 (m : Int) (IntKind.u32.wrap ((X : Int) * 2 ^ (8 * i))) = ((m + X * 2 ^ (8 * i) : Nat) : Int) := by
  have e : (X : Int) * 2 ^ (8 * i) = ((X * 2 ^ (8 * i) : Nat) : Int) := by push_cast; rfl
  rw [e, show IntKind.u32.wrap ((X * 2 ^ (8 * i) : Nat) : Int) = ((X * 2 ^ (8 * i) : Nat) : Int) from by rw [wrap_u32']; omega]
  rw [(bits_nat .u32 32 (by decide) (fun n h h' => by rw [wrap_u32']; omega) m (X * 2 ^ (8 * i)) hm64 hX).2, Nat.or_comm, Nat.mul_comm X, ← Nat.two_pow_add_eq_or_of_lt hm X, Nat.add_comm]
theorem takeC_byt {l : List Int} (hb : Byt l) {p : Nat} (hp : p ≤ l.length) (e n : Int) : Byt (takeC l p e n).1 := by
  unfold takeC
  split
  · split
    · intro i hi; simp at hi
    · split
      · intro i hi; simp at hi
      · exact hb.cut (by omega)
  · intro i hi; simp at hi
theorem takeC_len {l : List Int} {p : Nat} {e n : Int} (hn : 0 ≤ n) : ((takeC l p e n).1.length : Int) ≤ n := by
  unfold takeC
  split
  · split
    · simpa using hn
    · split
      · simpa using hn
      · simp only; rw [cutL_length (by omega)]; omega
  · simpa using hn
set_option maxHeartbeats 800000 in
theorem fixed_any {w : World} {c : Nat} {l : List Int} {p : Nat} {e : Int} (h : Cur w c l p e) (hb : Byt l) (hz : l.length ≤ 140737488355328) (n : Int) (hn0 : 0 ≤ n) (hn1 : n ≤ 4) :
    Calls Tryd.prog 46 #[.pointer (some ⟨c, 0, none⟩), .int .i64 n] w (RetCur .u32 c l w (lowN (takeC l p e n).1 : Nat) (takeC l p e n).2.1 (takeC l p e n).2.2) := by
  have Ct := Lib.hid (Take_any h hz n (by omega) (by omega))
  have hbl := takeC_byt hb h.le e n
  have hll := takeC_len (l := l) (p := p) (e := e) hn0
  clear h
  generalize (takeC l p e n).1 = L at *
  generalize (takeC l p e n).2.1 = p' at *
  generalize (takeC l p e n).2.2 = e' at *
  go_enter Tryd.func46, Tryd.ntmps46
  go_wp2_with (go_at_call 39; refine Ct.out.mono ?_; rintro r w1 ⟨v, rfl, hv, hc, ho⟩; obtain ⟨a, cap, b, off, rfl, hcap1, hcap2, ha, ht0⟩ := hv.nums)
  go_loopw [5, 12] (fun x j wr => ∃ (k : Nat), k ≤ L.length ∧ j = .int .i64 k ∧ x = .int .u32 (lowN (L.take k) : Nat) ∧ w1 = wr) (fun _ j _ => L.length - (intOf j).toNat)
  case atStart => exact ⟨0, by omega, rfl, rfl, rfl⟩
  case round =>
    obtain ⟨k, hk, rfl, rfl, rfl⟩ := hrel
    by_cases hlt : k < L.length
    · obtain rfl := ha (by omega)
      have hbk := hbl k hlt
      obtain ⟨X, hX⟩ := Int.eq_ofNat_of_zero_le hbk.1
      have htk := ht0 k hlt w1 (Old.refl w1)
      rw [hX] at hbk htk
      have hm := lowN_lt hbl k hk
      have Hs := Lib.hid (lowN_succ hlt)
      have hpw : 2 ^ (8 * k) ≤ 2 ^ 24 := Nat.pow_le_pow_right (by decide) (by omega)
      have h24 : (2 : Nat) ^ 24 = 16777216 := by decide
      have hXX : X * 2 ^ (8 * k) ≤ 255 * 2 ^ (8 * k) := Nat.mul_le_mul_right _ (by omega)
      have Hor := Lib.hid (or_group32 hm (show X * 2 ^ (8 * k) < 4294967296 by omega) (by omega))
      rw [wrap_u32'] at Hor
      have HX := Lib.hid (show (ix L k).toNat = X from by rw [hX]; rfl)
      clear ht0 ha hm hpw h24 hXX hX
      go_wp2_with fail
      go_roundw
      case rel => exact ⟨k + 1, by omega, by go_num, by rw [Hor.out, Hs.out, HX.out], by trivial⟩
      case measure => simp [intOf]; omega
    · obtain rfl : k = L.length := by omega
      have Ht := Lib.hid (show lowN (L.take L.length) = lowN L from by rw [List.take_length])
      clear ha ht0
      go_wp2_with fail
      go_ret
      exact RetCur.mk (by rw [Ht.out]) rfl rfl hc ho
theorem RetCur.refl {k : IntKind} {c : Nat} {l : List Int} {w : World} {n : Int} {p : Nat} {e : Int} {r : Ending} {w' : World} (h : RetCur k c l w n p e r w') : r = .returned (.int k n) ∧ Cur w' c l p e ∧ OldBut c w w' := h
theorem take_lt {l : List Int} (hb : Byt l) {p : Nat} (hp : p ≤ l.length) (e : Int) (n : Nat) : lowN (takeC l p e n).1 < 2 ^ (8 * n) := by
  have h1 := takeC_byt hb hp e n
  have h2 := takeC_len (l := l) (p := p) (e := e) (n := n) (by omega)
  have h3 := lowN_lt h1 _ (Nat.le_refl _)
  rw [List.take_length] at h3
  exact Nat.lt_of_lt_of_le h3 (Nat.pow_le_pow_right (by decide) (by omega))
theorem wrap_u16 (n : Int) : IntKind.u16.wrap n = n % 65536 := by simp [IntKind.wrap, IntKind.bits, IntKind.signed]
theorem Byte_any {w : World} {c : Nat} {l : List Int} {p : Nat} {e : Int} (h : Cur w c l p e) (hb : Byt l) (hz : l.length ≤ 140737488355328) :
    Calls Tryd.prog 38 #[.pointer (some ⟨c, 0, none⟩)] w (RetCur .u8 c l w (lowN (takeC l p e 1).1 : Nat) (takeC l p e 1).2.1 (takeC l p e 1).2.2) := by
  have Ct := Lib.hid (fixed_any h hb hz 1 (by omega) (by omega))
  have hlt := take_lt hb h.le e 1
  rw [show ((1 : Nat) : Int) = 1 from rfl] at hlt
  have Hw := Lib.hid (show ((lowN (takeC l p e 1).1 : Nat) : Int) % 256 = (lowN (takeC l p e 1).1 : Nat) from by omega)
  clear h hlt
  generalize (takeC l p e 1).1 = L at *
  go_enter Tryd.func38, Tryd.ntmps38
  go_wp2_with (go_at_call 46; refine Ct.out.mono ?_; rintro r w1 ⟨rfl, hc, ho⟩)
  go_ret
  exact RetCur.mk (by rw [Hw.out]) rfl rfl hc ho
theorem Take16_any {w : World} {c : Nat} {l : List Int} {p : Nat} {e : Int} (h : Cur w c l p e) (hb : Byt l) (hz : l.length ≤ 140737488355328) :
    Calls Tryd.prog 30 #[.pointer (some ⟨c, 0, none⟩)] w (RetCur .u16 c l w (lowN (takeC l p e 2).1 : Nat) (takeC l p e 2).2.1 (takeC l p e 2).2.2) := by
  have Ct := Lib.hid (fixed_any h hb hz 2 (by omega) (by omega))
  have hlt := take_lt hb h.le e 2
  rw [show ((2 : Nat) : Int) = 2 from rfl] at hlt
  have Hw := Lib.hid (show ((lowN (takeC l p e 2).1 : Nat) : Int) % 65536 = (lowN (takeC l p e 2).1 : Nat) from by omega)
  clear h hlt
  generalize (takeC l p e 2).1 = L at *
  go_enter Tryd.func30, Tryd.ntmps30
  go_wp2_with (go_at_call 46; refine Ct.out.mono ?_; rintro r w1 ⟨rfl, hc, ho⟩)
  go_ret
  exact RetCur.mk (by rw [wrap_u16, Hw.out]) rfl rfl hc ho
theorem Take32_any {w : World} {c : Nat} {l : List Int} {p : Nat} {e : Int} (h : Cur w c l p e) (hb : Byt l) (hz : l.length ≤ 140737488355328) :
    Calls Tryd.prog 31 #[.pointer (some ⟨c, 0, none⟩)] w (RetCur .u32 c l w (lowN (takeC l p e 4).1 : Nat) (takeC l p e 4).2.1 (takeC l p e 4).2.2) := by
  have Ct := Lib.hid (fixed_any h hb hz 4 (by omega) (by omega))
  clear h
  generalize (takeC l p e 4).1 = L at *
  go_enter Tryd.func31, Tryd.ntmps31
  go_wp2_with (go_at_call 46; refine Ct.out.mono ?_; rintro r w1 ⟨rfl, hc, ho⟩)
  go_ret
  exact RetCur.mk rfl rfl rfl hc ho
theorem back_any {w : World} {c : Nat} {l : List Int} {p : Nat} {e0 : Int} (h : Cur w c l p e0) (q : Nat) (hq : q ≤ l.length) (e : Int) :
    Calls Tryd.prog 47 #[.pointer (some ⟨c, 0, none⟩), .int .i64 q, .int .i64 e] w fun r w' => r = .returned (.tuple #[]) ∧ Cur w' c l q (failE e0 e) ∧ OldBut c w w' := by
  have Ct := Lib.hid (Fail_any (e := e) (h.setAt hq))
  have h1 := h.at1
  have hf := h.fz 1
  clear h
  go_enter Tryd.func47, Tryd.ntmps47
  go_wp2_with (go_at_call 42; refine Ct.out.mono ?_; rintro r w1 ⟨rfl, hc, ho⟩)
  go_end0
  exact ⟨rfl, hc, ((OldBut.refl c w).setCell 1 _).trans ho⟩
/-- a number as a whole number -/
def zag (n : Nat) : Int := if n % 2 = 1 then -((n / 2 : Nat) : Int) - 1 else ((n / 2 : Nat) : Int)
theorem zag_odd {n : Nat} (h : n % 2 = 1) : zag n = -((n / 2 : Nat) : Int) - 1 := by unfold zag; rw [if_pos h]
theorem zag_even {n : Nat} (h : ¬ n % 2 = 1) : zag n = ((n / 2 : Nat) : Int) := by unfold zag; rw [if_neg h]
theorem and_one64 {y : Nat} (hy : y < 18446744073709551616) : bits .and .u64 (y : Int) 1 = (y : Int) % 2 := by
  have := bits_mask .u64 64 (by decide) (fun n h h' => by rw [wrap_u64]; omega) 1 (by decide) (y : Int) (by omega) (by omega)
  rwa [show (2 : Int) ^ 1 - 1 = 1 from by decide, show (2 : Int) ^ 1 = 2 from by decide] at this
theorem uintC_lt {l : List Int} (hb : Byt l) (p : Nat) (e : Int) : (uintC l p e).1 < 18446744073709551616 := by
  unfold uintC
  split
  · split
    · rename_i h; exact (num_bounds hb h).1
    · simp
  · simp
theorem uintC_le {l : List Int} (hb : Byt l) {p : Nat} (hp : p ≤ l.length) (e : Int) : (uintC l p e).2.1 ≤ l.length := by
  unfold uintC
  split
  · split
    · rename_i h; exact (num_bounds hb h).2
    · exact hp
  · exact hp
set_option maxHeartbeats 400000 in
theorem Int_any {w : World} {c : Nat} {l : List Int} {p : Nat} {e : Int} (h : Cur w c l p e) (hb : Byt l) (hz : l.length ≤ 140737488355328) :
    Calls Tryd.prog 32 #[.pointer (some ⟨c, 0, none⟩)] w (RetCur .i64 c l w (zag (uintC l p e).1) (uintC l p e).2.1 (uintC l p e).2.2) := by
  have Ct := Lib.hid (Uint_any h hb hz)
  have hlt := uintC_lt hb p e
  clear h
  generalize (uintC l p e).1 = n at *
  generalize (uintC l p e).2.1 = p' at *
  generalize (uintC l p e).2.2 = e' at *
  by_cases hn : n % 2 = 1
  · have Hz := Lib.hid (zag_odd hn)
    have hb1 : (bits .and .u64 (n : Int) 1 == 1) = true := by rw [and_one64 hlt, beq_iff_eq]; omega
    have Hx := Lib.hid (show bits .xor .i64 (-1) ((n : Int) / 2) = -((n / 2 : Nat) : Int) - 1 from by rw [xor_not _ (by omega) (by omega)]; omega)
    clear hn
    go_enter Tryd.func32, Tryd.ntmps32
    go_wp2_with (go_at_call 12; refine Ct.out.mono ?_; rintro r w1 ⟨rfl, hc, ho⟩)
    go_ret
    exact RetCur.mk (by rw [Hz.out, Hx.out]) rfl rfl hc ho
  · have Hz := Lib.hid (zag_even hn)
    have hb1 : (bits .and .u64 (n : Int) 1 == 1) = false := by rw [and_one64 hlt, beq_eq_false_iff_ne]; omega
    clear hn
    go_enter Tryd.func32, Tryd.ntmps32
    go_wp2_with (go_at_call 12; refine Ct.out.mono ?_; rintro r w1 ⟨rfl, hc, ho⟩)
    go_ret
    exact RetCur.mk (by rw [Hz.out]; omega) rfl rfl hc ho
end Go.Proofs.YtaclkoipobgmkaaDoor
