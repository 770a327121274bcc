/-
  OCTET: the document's whole numbers, fixed numbers, bytes.
-/
import Derived.Test.YtaclkoipobgmkaaDoorOctPuts
import Derived.Laws.IdiomStrings
namespace Go.Proofs.YtaclkoipobgmkaaDoor
open Go.RowKit
attribute [local go_sem] Old.refl Old.alloc Old.drew Old.setCell OldW.old

set_option maxHeartbeats 400000 in
theorem RIntB_any (n : Int) (w : World) (h0 : -9223372036854775808 ≤ n) (h1 : n ≤ 9223372036854775807) :
    Calls Tryd.prog 27 #[.int .i64 n] w fun e w' => RetByt w w' (puts (zig n)) e ∧ Old w w' := by
  have Hc := Lib.hid (RUintB_any (zig n) w (zig_lt h0 h1))
  by_cases hneg : n < 0
  · have hd : decide (0 ≤ n) = false := by simp; omega
    have Hz := Lib.hid (show 2 * (-(n + 1)) + 1 = (zig n : Int) from by unfold zig; rw [if_pos hneg]; omega)
    go_enter Tryd.func27, Tryd.ntmps27
    go_wp2_with (go_at_call 26; rw [Hz.out]; refine Hc.out.mono ?_; rintro e w1 ⟨⟨v1, rfl, hv1⟩, ho1⟩)
    go_ret
    exact ⟨⟨_, rfl, hv1⟩, ho1⟩
  · have hd : decide (0 ≤ n) = true := by simp; omega
    have Hz := Lib.hid (show 2 * n = (zig n : Int) from by unfold zig; rw [if_neg hneg]; omega)
    have hn0 : 0 ≤ n := by omega
    go_enter Tryd.func27, Tryd.ntmps27
    go_wp2_with (go_at_call 26; rw [Hz.out]; refine Hc.out.mono ?_; rintro e w1 ⟨⟨v1, rfl, hv1⟩, ho1⟩)
    go_ret
    exact ⟨⟨_, rfl, hv1⟩, ho1⟩
set_option maxHeartbeats 400000 in
theorem Low_any (n m : Nat) (w : World) (hn : n < 18446744073709551616) (hm : m ≤ 10) :
    Calls Tryd.prog 28 #[.int .u64 n, .int .i64 m] w fun e w' => RetByt w w' (lowL n m) e ∧ Old w w' := by
  go_enter Tryd.func28, Tryd.ntmps28
  go_wp2_with fail
  go_loopw [0, 5, 6] (fun x u j wr => ∃ (k : Nat), k ≤ m ∧ x = .int .u64 (n / 256 ^ k : Nat) ∧ j = .int .i64 k ∧ OwnN .u8 5 w wr u (lowL n k) ∧ Old w wr) (fun _ _ j _ => m - (intOf j).toNat)
  case atStart => exact ⟨0, Nat.zero_le _, by rw [Nat.pow_zero, Nat.div_one], rfl, OwnN.nil _ _ _, Old.refl _⟩
  case round =>
    obtain ⟨k, hk, rfl, rfl, hown, hold⟩ := hrel
    have hN : n / 256 ^ k < 18446744073709551616 := Nat.lt_of_le_of_lt (Nat.div_le_self _ _) hn
    have hll := lowL_len k n
    obtain ⟨au, cu, rfl, _, _⟩ := ownsRow_form hown
    by_cases hlt : k < m
    · have Hs := Lib.hid (lowL_snoc k n)
      have Hd := Lib.hid (show n / 256 ^ (k + 1) = n / 256 ^ k / 256 from by rw [Nat.div_div_eq_div_mul, Nat.pow_succ])
      have Hll := Lib.hid hll
      clear hll
      generalize n / 256 ^ k = M at *
      go_wp2_with (at_builtin; refine wpList_append_nums (k := .u8) (w0 := w) rfl _ _ 22 rfl 5 Tryd.underlying22 infoByte _ (lowL n k) [((M % 256 : Nat) : Int)] rfl (hown.alloc _) _ rfl (Nums.one _ _ _) (by rw [Hll.out]; simp; omega) (by rw [Hll.out]; simp; omega) (hold.alloc _) ?_; intro v' w3 hown3 ho3 _)
      go_roundw
      case rel => exact ⟨k + 1, by omega, by rw [Hd.out]; go_num, by go_num, by rw [Hs.out]; exact hown3, ho3⟩
      case measure => simp [intOf]; omega
    · obtain rfl : k = m := by omega
      clear hll
      go_wp2_with fail
      go_ret
      exact ⟨⟨_, rfl, hown⟩, hold⟩
set_option maxRecDepth 100000 in
set_option maxHeartbeats 400000 in
theorem RBytesB_any (q : List Int) (u : Value) (w : World) (hU : Nums .u8 w u q) (hz : q.length + 20 ≤ 140737488355328) :
    Calls Tryd.prog 29 #[u] w fun e w' => RetByt w w' (puts q.length ++ q) e ∧ Old w w' := by
  have HU := Lib.hid hU
  obtain ⟨au, cu, rfl, _, _⟩ := hU.form
  have hp10 := puts_len10 (n := q.length) (by omega)
  clear hU
  go_enter Tryd.func29, Tryd.ntmps29
  go_wp2_with (first
    | (go_at_call 26; refine (RUintB_any q.length w (by omega)).mono ?_; rintro e w1 ⟨⟨v1, rfl, hv1⟩, ho1⟩)
    | (at_builtin; refine wpList_append_nums (k := .u8) (w0 := w) rfl _ _ 22 rfl 5 Tryd.underlying22 infoByte _ (puts q.length) q rfl hv1 _ rfl (HU.out.old ho1) (by omega) (by omega) ho1 ?_; intro v' w3 hown3 ho3 _))
  go_ret
  exact ⟨⟨_, rfl, hown3⟩, ho3⟩
/-- '[]byte(s)' -/
theorem convert_text {P : Program} (w : World) (s : ByteArray) (src dst e : TypeId) (hs : P.underlying src = some .string) (hd : P.underlying dst = some (.slice e)) (he : P.underlying e = some (.int .u8)) (hz : s.size ≤ 9223372036854775807) :
    ∃ v w', (convert src dst (.string s)).run P w = .ok v w' ∧ Nums .u8 w' v (bytesOf s) ∧ Old w w' := by
  have hcap := grownCap_ge w s.size 0 e
  have hmax := grownCap_le_maxLen w s.size 0 e (by simpa [maxLen] using hz)
  refine ⟨_, _, run_bytes_of_string w src dst e s hs hd he, ?_, (Old.refl w).drew.alloc _⟩
  have := Nums.mk (k := .u8) (w := w.drew.alloc (.cells (bytesRow s (grownCap w s.size 0 e)) e ((bytesRow s (grownCap w s.size 0 e)).size, (bytesRow s (grownCap w s.size 0 e)).size + 1))) (b := w.heap.size) (off := 0) (cap := grownCap w s.size 0 e) (l := bytesOf s) (by rw [bytesOf_len]; exact hcap) (by simpa [maxLen] using hmax) (fun i hi => by
    rw [bytesOf_len] at hi
    have h1 := World.cell?_alloc_mark w.drew (bytesRow s (grownCap w s.size 0 e)) e ((bytesRow s (grownCap w s.size 0 e)).size, (bytesRow s (grownCap w s.size 0 e)).size + 1) i
    rw [Nat.zero_add]
    refine h1.trans ?_
    have hi' : i < s.data.size := hi
    rw [ix_get (by rw [bytesOf_len]; exact hi)]
    simp [bytesRow, bytesOf, Array.getElem?_append]
    rw [if_pos hi, Array.getElem?_eq_getElem hi']
    rfl)
  rwa [bytesOf_len] at this
end Go.Proofs.YtaclkoipobgmkaaDoor
