/-
  TEXT, the statement's own digits: a number's decimal digits behind noughts.
-/
import Derived.Test.YtjkpmdckpfklgaaDoorTextNumP
import Derived.Test.YtjkpmdckpfklgaaDoorTextRefE
import Derived.Test.YtjkpmdckpfklgaaDoorShelf02
namespace Go.Proofs.YtjkpmdckpfklgaaDoor
open Go.RowKit
attribute [local go_sem] Old.refl Old.alloc Old.drew Old.setCell OldW.old

theorem repeat_rep (c : UInt8) : ∀ k : Nat, Lib.repeatL [c] k = List.replicate k c
  | 0 => rfl
  | k + 1 => by
    rw [Lib.repeatL, repeat_rep c k]; rfl
/-- how many noughts stand ahead -/
def noughtN (z : Int) : Nat := (z.tmod 5 + 5).toNat % 5
theorem encode_dig {k : Nat} (h : k < 10) : Utf8.encode (48 + (k : Int)) = strB [UInt8.ofNat (48 + k)] := by
  have h1 := dig_val h
  rw [encode_rune]
  unfold Lib.encodeRune strB
  rw [Lib.encodeRuneZ_one (by omega) (by omega)]
  simp only [List.map_cons, List.map_nil]
  rw [Lib.toByte _ (UInt8.ofNat (48 + k)) (by omega)]
set_option maxRecDepth 100000 in
set_option maxHeartbeats 3200000 in
theorem dec_any (z : Int) (n : Nat) (w : World) (hn : n ≤ 18446744073709551615) :
    Calls Tryd.prog 41 #[.int .i64 z, .int .u64 n] w fun e w' => e = .returned (.string (strB (List.replicate (noughtN z) 48 ++ decD n))) ∧ Old w w' := by
  have hdl := decD_le n 19 (by omega)
  have hz1 := Int.tmod_lt_of_pos z (b := 5) (by decide)
  have hz0 : -5 < z.tmod 5 := by
    have := Int.neg_tmod z 5
    have h2 := Int.tmod_lt_of_pos (-z) (b := 5) (by decide)
    omega
  obtain ⟨t, ht⟩ : ∃ t : Nat, z.tmod 5 + 5 = t := ⟨(z.tmod 5 + 5).toNat, by omega⟩
  have hw : wrap64 (z.tmod 5 + 5) = t := by rw [ht]; exact w64 (by omega) (by omega)
  have Hn := Lib.hid (show noughtN z = t % 5 from by unfold noughtN; rw [ht]; rfl)
  have HR := Lib.hid (fun k V (hk : k < 5) => Tryd.strings_Repeat ⟨#[48]⟩ k V (by omega) (by show 1 * k ≤ _; omega))
  have ht9 : t < 10 := by omega
  clear hz1 hz0 ht
  go_enter Tryd.func41, Tryd.ntmps41
  go_wp2_with fail
  go_loopw [1, 5] (fun x s wr => ∃ (m : Nat) (acc : List UInt8), x = .int .u64 m ∧ s = .string (strB acc) ∧ m ≤ n ∧ decD m ++ acc = decD n ∧ w = wr) (fun x _ _ => (intOf x).toNat)
  case atStart => exact ⟨n, [], rfl, rfl, Nat.le_refl _, by simp, rfl⟩
  case round =>
    obtain ⟨m, acc, rfl, rfl, hm, hat, rfl⟩ := hrel
    have hla : acc.length ≤ 20 := by have h := congrArg List.length hat; rw [List.length_append] at h; omega
    obtain ⟨S0, hS0⟩ : ∃ S0, S0 = strB acc := ⟨_, rfl⟩
    have z0 : S0.size = acc.length := by rw [hS0]; exact strB_size acc
    obtain ⟨X, hX⟩ : ∃ X, X = strB [UInt8.ofNat (48 + m % 10)] := ⟨_, rfl⟩
    have z1 : X.size = 1 := by rw [hX]; rfl
    obtain ⟨V, hV⟩ : ∃ V, V = strB (UInt8.ofNat (48 + m % 10) :: acc) := ⟨_, rfl⟩
    have E1 : X ++ S0 = V := by rw [hS0, hX, hV]; exact strB_app _ _
    have zv : V.size = acc.length + 1 := by rw [hV]; exact strB_size _
    have Hx : Utf8.encode (48 + (m : Int) % 10) = X := by
      have := encode_dig (k := m % 10) (by omega)
      rw [hX, ← this]
      congr 1
    have hcat : ¬ 9223372036854775807 < X.size + S0.size := by omega
    rw [← hS0]
    by_cases h10 : m < 10
    · have hd : ((m : Int) / 10 == 0) = true := by rw [beq_iff_eq]; omega
      have HV : Hid (V = strB (decD n)) := by
        rw [hV, ← hat, decD_small h10, Nat.mod_eq_of_lt h10]; rfl
      obtain ⟨R, hR⟩ : ∃ R, R = strB (List.replicate (t % 5) 48) := ⟨_, rfl⟩
      have zr : R.size = t % 5 := by rw [hR, strB_size, List.length_replicate]
      have HRR : Hid ((⟨(Lib.repeatL [48] (t % 5)).toArray⟩ : ByteArray) = R) := by
        rw [hR, ← repeat_rep]; rfl
      have hcat2 : ¬ 9223372036854775807 < R.size + V.size := by omega
      have HF : Hid (R ++ V = strB (List.replicate (noughtN z) 48 ++ decD n)) := by
        rw [Hn.out, hR, HV.out]; exact strB_app _ _
      clear hV hX hS0 hat h10 hR
      go_wp2_with fail
      refine (HR.out (t % 5) _ (by omega)).mono ?_
      rw [show (⟨(Lib.repeatL (⟨#[48]⟩ : ByteArray).data.toList (t % 5)).toArray⟩ : ByteArray) = R from HRR.out]
      rintro e w1 ⟨rfl, ho1⟩
      go_wp2_with fail
      go_ret
      exact ⟨by rw [HF.out]; rfl, ho1⟩
    · have hd : ((m : Int) / 10 == 0) = false := by rw [beq_eq_false_iff_ne]; omega
      have HV : Hid (V = strB (UInt8.ofNat (48 + m % 10) :: acc)) := hV
      have Hat : Hid (decD (m / 10) ++ (UInt8.ofNat (48 + m % 10) :: acc) = decD n) := by
        rw [← hat, decD_big h10, List.append_assoc]; rfl
      clear hV hX hS0 hat
      go_wp2_with fail
      go_roundw
      case rel => exact ⟨m / 10, _, by go_num, congrArg Value.string HV.out, by omega, Hat.out, by trivial⟩
      case measure => simp [intOf]; omega
end Go.Proofs.YtjkpmdckpfklgaaDoor
