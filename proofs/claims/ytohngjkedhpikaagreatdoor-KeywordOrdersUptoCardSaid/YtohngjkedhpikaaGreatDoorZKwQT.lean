/-
  KEYWORD, QT: the document's Ints and Texts, at slices that are alike.
-/
import Derived.Test.YtohngjkedhpikaaGreatDoorZRInts
import Derived.Test.YtohngjkedhpikaaGreatDoorZTextCodesD
import Derived.Test.YtohngjkedhpikaaGreatDoorZBuilder
import Derived.BigQuiet
namespace Go.Proofs.YtohngjkedhpikaaGreatDoor
open Go.RowKit
attribute [local go_sem] Old.refl Old.alloc Old.drew Old.setCell OldW.old

set_option maxHeartbeats 1600000 in
theorem RTexts_same (u v : Value) (l : List ByteArray) (w : World) (hl : Txts w u l) (hm : Txts w v l) :
    Calls Tryz.prog 56 #[u, v] w fun e w' => e = .returned (.bool true) ∧ Old w w' := by
  obtain ⟨a1, c1, b1, off1, rfl, hc11, hc12, ha1, ht1⟩ := hl
  obtain ⟨a2, c2, b2, off2, rfl, hc21, hc22, ha2, ht2⟩ := hm
  have Ha1 := Lib.hid ha1
  have Ht1 := Lib.hid ht1
  have Ha2 := Lib.hid ha2
  have Ht2 := Lib.hid ht2
  clear ha1 ht1 ha2 ht2
  go_enter Tryz.func56, Tryz.ntmps56
  go_wp2_with fail
  go_loopw [13] (fun j wr => ∃ k : Nat, j = .int .i64 k ∧ k ≤ l.length ∧ Old w wr) (fun j _ => l.length - (intOf j).toNat)
  case atStart => exact ⟨0, rfl, Nat.zero_le _, Old.refl _⟩
  case round =>
    obtain ⟨k, rfl, hk, ho⟩ := hrel
    by_cases hlt : k < l.length
    · have hi : (k : Int) < l.length := by omega
      obtain rfl := Ha1.out (by omega)
      obtain rfl := Ha2.out (by omega)
      have k1 := fun V (o : Old wr V) => Ht1.out k hlt V (ho.trans o)
      have k2 := fun V (o : Old wr V) => Ht2.out k hlt V (ho.trans o)
      generalize l.getD k ⟨#[]⟩ = x at *
      have hb : (x.toList == x.toList) = true := by rw [str_beq]; simp
      have hb' : (x.toList != x.toList) = false := by unfold bne; rw [hb]; rfl
      go_upto_region 6 with fail
      refine wp_region_old (Old.refl _) (by kernel_rfl) (by kernel_rfl) ?_
      repeat (go_big_quiet_step (fail))
      refine wpQuiet_nil ?_
      rintro ⟨wq, hwq⟩
      dsimp only
      go_wp2_with fail
      go_roundw
      case rel => exact ⟨k + 1, by go_num, by omega, ho.trans hwq⟩
      case measure => simp [intOf]; omega
    · obtain rfl : k = l.length := by omega
      have hi : ¬ (l.length : Int) < l.length := by omega
      go_wp2_with fail
      go_ret
      exact ⟨rfl, ho⟩
theorem RTexts9_same (u v : Value) (l : List ByteArray) (w : World) (hl : Txts w u l) (hm : Txts w v l) :
    Calls Tryz.prog 17 #[u, v] w fun e w' => e = .returned (.bool true) ∧ Old w w' := by
  have HC := Lib.hid (RTexts_same u v l w hl hm)
  go_enter Tryz.func17, Tryz.ntmps17
  go_wp2_with fail
  refine HC.out.mono ?_
  rintro e w1 ⟨rfl, o1⟩
  go_wp2_with fail
  go_ret
  exact ⟨rfl, o1⟩
theorem RInts9_same (u v : Value) (l : List Int) (w : World) (hl : Ints w u l) (hm : Ints w v l) :
    Calls Tryz.prog 28 #[u, v] w fun e w' => e = .returned (.bool true) ∧ Old w w' := by
  have HC := Lib.hid (RInts_same u v l w hl hm)
  go_enter Tryz.func28, Tryz.ntmps28
  go_wp2_with fail
  refine HC.out.mono ?_
  rintro e w1 ⟨rfl, o1⟩
  go_wp2_with fail
  go_ret
  exact ⟨rfl, o1⟩
end Go.Proofs.YtohngjkedhpikaaGreatDoor
