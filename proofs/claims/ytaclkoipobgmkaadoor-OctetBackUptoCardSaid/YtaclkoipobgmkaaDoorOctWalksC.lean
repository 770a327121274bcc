/-
  OCTET, WALKS C: PutUint, PutInt.
-/
import Derived.Test.YtaclkoipobgmkaaDoorOctWalksB
namespace Go.Proofs.YtaclkoipobgmkaaDoor
open Go.RowKit
attribute [local go_sem] Old.refl Old.alloc Old.drew Old.setCell OldW.old

set_option maxHeartbeats 800000 in
theorem PutUint_any (l : List Int) (v : Value) (n : Nat) (w : World) (hT : Nums .u8 w v l) (hz : l.length + 10 ≤ 140737488355328) (hn : n < 18446744073709551616) :
    Calls Tryd.prog 15 #[v, .int .u64 n] w fun e w' => RetByt w w' (l ++ puts n) e ∧ Old w w' := by
  have hp10 := puts_len10 hn
  go_enter Tryd.func15, Tryd.ntmps15
  go_wp2_with (go_at_call 43; refine (grown_any l v 10 w hT hz).mono ?_; rintro e w1 ⟨⟨v1, rfl, hv1⟩, ho1⟩)
  go_loopw [1, 5] (fun x u wr => ∃ (m : Nat) (D : List Int), m ≤ n ∧ x = .int .u64 m ∧ D ++ puts m = puts n ∧ OwnN .u8 5 w wr u (l ++ D) ∧ Old w wr) (fun x _ _ => (intOf x).toNat)
  case atStart => exact ⟨n, [], Nat.le_refl _, rfl, rfl, by rw [List.append_nil]; exact hv1, ho1⟩
  case round =>
    obtain ⟨m, D, hm, rfl, hD, hown, hold⟩ := hrel
    have hDl : D.length + (puts m).length = (puts n).length := by rw [← hD, List.length_append]
    have HD := Lib.hid hD
    clear hD
    obtain ⟨au, cu, rfl, _, _⟩ := ownsRow_form hown
    by_cases hmore : 127 < m
    · have Hp := Lib.hid (puts_more hmore)
      have hpl : 1 ≤ (puts m).length := by rw [Hp.out]; simp
      have Hor := Lib.hid (show bits .or .u8 ((m : Int) % 256) 128 = ((m % 128 : Nat) : Int) + 128 from by rw [or_high _ (by omega) (by omega)]; omega)
      go_wp2_with (at_builtin; rw [Hor.out]; refine wpList_append_nums (k := .u8) (w0 := w) rfl _ _ 22 rfl 5 Tryd.underlying22 infoByte _ (l ++ D) [((m % 128 : Nat) : Int) + 128] rfl (hown.alloc _) _ rfl (Nums.one _ _ _) (by simp; omega) (by simp; omega) (hold.alloc _) ?_; intro v' w3 hown3 ho3 _)
      go_roundw
      case rel => exact ⟨m / 128, D ++ [((m % 128 : Nat) : Int) + 128], by omega, by go_num, by rw [← HD.out, Hp.out, List.append_assoc]; rfl, by rw [← List.append_assoc]; exact hown3, ho3⟩
      case measure => simp [intOf]; omega
    · have Hp := Lib.hid (puts_last hmore)
      have hpl : 1 ≤ (puts m).length := by rw [Hp.out]; simp
      go_wp2_with (at_builtin; refine wpList_append_nums (k := .u8) (w0 := w) rfl _ _ 22 rfl 5 Tryd.underlying22 infoByte _ (l ++ D) [(m : Int)] rfl (hown.alloc _) _ rfl (Nums.one _ _ _) (by simp; omega) (by simp; omega) (hold.alloc _) ?_; intro v' w3 hown3 ho3 _)
      go_ret
      exact ⟨⟨_, rfl, by rw [← HD.out, Hp.out, ← List.append_assoc]; exact hown3⟩, ho3⟩

/-- a whole number as one that is none below nothing -/
def zig (n : Int) : Nat := if n < 0 then (2 * (-(n + 1)) + 1).toNat else (2 * n).toNat
theorem zig_lt {n : Int} (h0 : -9223372036854775808 ≤ n) (h1 : n ≤ 9223372036854775807) : zig n < 18446744073709551616 := by
  unfold zig; split <;> omega
theorem xor_not (n : Int) (h0 : -9223372036854775808 ≤ n) (h1 : n ≤ 9223372036854775807) : bits .xor .i64 (-1) n = -n - 1 := by
  have e : (BitVec.ofInt 64 (-1) ^^^ BitVec.ofInt 64 n) = ~~~(BitVec.ofInt 64 n) := by
    rw [show BitVec.ofInt 64 (-1) = BitVec.allOnes 64 from by decide, BitVec.allOnes_xor]
  have e2 : ((~~~(BitVec.ofInt 64 n)).toNat : Int) = 18446744073709551615 - n % 18446744073709551616 := by
    rw [BitVec.toNat_not, BitVec.toNat_ofInt]
    have h2 : 0 ≤ n % 18446744073709551616 := Int.emod_nonneg _ (by decide)
    have h3 : n % 18446744073709551616 < 18446744073709551616 := Int.emod_lt_of_pos _ (by decide)
    omega
  have e3 : bits .xor .i64 (-1) n = IntKind.i64.wrap (((BitVec.ofInt 64 (-1) ^^^ BitVec.ofInt 64 n).toNat : Nat) : Int) := by
    simp only [bits]; rfl
  rw [e3, e, e2, IntKind.wrap_i64]
  omega
theorem wrap_u64 (n : Int) : IntKind.u64.wrap n = n % 18446744073709551616 := by simp [IntKind.wrap, IntKind.bits, IntKind.signed]
theorem or_one64 (x : Int) (h0 : 0 ≤ x) (h1 : x < 18446744073709551616) (h2 : x % 2 = 0) : bits .or .u64 x 1 = x + 1 :=
  bits_join .u64 64 (by decide) (fun n h h' => by rw [wrap_u64]; omega) 1 x 1 h0 h2 h1 (by decide) (by decide) (by decide)
set_option maxHeartbeats 400000 in
theorem PutInt_any (l : List Int) (v : Value) (n : Int) (w : World) (hT : Nums .u8 w v l) (hz : l.length + 10 ≤ 140737488355328) (h0 : -9223372036854775808 ≤ n) (h1 : n ≤ 9223372036854775807) :
    Calls Tryd.prog 21 #[v, .int .i64 n] w fun e w' => RetByt w w' (l ++ puts (zig n)) e ∧ Old w w' := by
  have Hc := Lib.hid (PutUint_any l v (zig n) w hT hz (zig_lt h0 h1))
  clear hT hz
  by_cases hneg : n < 0
  · have Hz := Lib.hid (show bits .or .u64 (IntKind.u64.wrap (IntKind.u64.wrap (bits .xor .i64 (-1) n) * 2)) 1 = (zig n : Int) from by
      have e1 : IntKind.u64.wrap (-n - 1) = -n - 1 := by rw [wrap_u64]; omega
      have e2 : IntKind.u64.wrap ((-n - 1) * 2) = (-n - 1) * 2 := by rw [wrap_u64]; omega
      rw [xor_not n h0 h1, e1, e2, or_one64 _ (by omega) (by omega) (by omega)]
      unfold zig; rw [if_pos hneg]; omega)
    go_enter Tryd.func21, Tryd.ntmps21
    go_wp2_with (go_at_call 15; rw [Hz.out]; refine Hc.out.mono ?_; rintro e w1 ⟨⟨v1, rfl, hv1⟩, ho1⟩)
    go_ret
    exact ⟨⟨_, rfl, hv1⟩, ho1⟩
  · have Hz := Lib.hid (show n * 2 = (zig n : Int) from by unfold zig; rw [if_neg hneg]; omega)
    go_enter Tryd.func21, Tryd.ntmps21
    go_wp2_with (go_at_call 15; rw [Hz.out]; refine Hc.out.mono ?_; rintro e w1 ⟨⟨v1, rfl, hv1⟩, ho1⟩)
    go_ret
    exact ⟨⟨_, rfl, hv1⟩, ho1⟩
end Go.Proofs.YtaclkoipobgmkaaDoor
