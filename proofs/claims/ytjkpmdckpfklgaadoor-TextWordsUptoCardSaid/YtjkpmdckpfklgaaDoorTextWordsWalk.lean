/-
  TextWords: the walk of the statement.
-/
import Derived.Test.YtjkpmdckpfklgaaDoorTextAwake
import Derived.Test.YtjkpmdckpfklgaaDoorTextRefD
import Derived.Test.YtjkpmdckpfklgaaDoorTextCut
namespace Go.Proofs.YtjkpmdckpfklgaaDoor
open Go.RowKit
attribute [local go_sem] Old.refl Old.alloc Old.drew Old.setCell OldW.old
theorem wordsGo_len (s : ByteArray) : ∀ (d i p : Nat) (t : List CellR), s.size + 1 - i = d → p ≤ i → t.length ≤ p → (wordsGo s i p t).length ≤ s.size + 1 ∨ s.size + 1 < i := by
  intro d
  induction d using Nat.strongRecOn with
  | _ d ih =>
    intro i p t hd hp ht
    by_cases h : i ≤ s.size
    · by_cases h' : i < s.size ∧ isSp s i = false
      · rw [wordsGo_in h'.1 h'.2]
        have := ih (s.size + 1 - (i + 1)) (by omega) (i + 1) p t rfl (by omega) ht
        omega
      · rw [wordsGo_cut h (fun k => by
          cases hs : isSp s i
          · exact absurd ⟨k, hs⟩ h'
          · rfl)]
        have hl : (addW s t p i).length ≤ t.length + 1 := by unfold addW; split <;> simp
        have := ih (s.size + 1 - (i + 1)) (by omega) (i + 1) (i + 1) (addW s t p i) rfl (Nat.le_refl _) (by omega)
        omega
    · rw [wordsGo_end h]
      omega
set_option maxRecDepth 100000 in
set_option maxHeartbeats 3200000 in
theorem textWords_row_walk (W : World) (hT : Tabs W) (s : ByteArray) (_ : s.size ≤ 9223372036854775807) (y : s.size ≤ 1048576) (wide : Int) (bw : -9223372036854775808 ≤ wide ∧ wide ≤ 9223372036854775807) :
    Calls Tryd.prog 8 #[.string s, .int .i64 wide] W fun e w' => e = .returned (.bool true) ∧ Old W w' := by
  have H1 := Lib.hid (Words_any s W hT (by omega))
  have H2 := Lib.hid (fun V => RWords_any s V (by omega))
  have H5 := Lib.hid (fun V (o : Old W V) => awake_any V (hT.old o))
  have H6 := Lib.hid (fun V (o : Old W V) => Cut_any s wide bw V (hT.old o) (by omega))
  have H7 := Lib.hid (fun V => RCut_any s wide bw V (by omega))
  have hlen : (wordsS s).length ≤ s.size + 1 := by
    have := wordsGo_len s _ 0 0 [] rfl (Nat.le_refl _) (Nat.le_refl _)
    unfold wordsS; omega
  generalize wordsS s = t at *
  generalize cutAt wide (cellsL s.data.toList) 0 = o at *
  go_enter Tryd.func8, Tryd.ntmps8
  go_wp2_with fail
  refine H1.out.mono ?_
  rintro e w1 ⟨⟨v1, rfl, hv1⟩, ho1⟩
  go_wp2_with fail
  refine (H2.out _).mono ?_
  rintro e w2 ⟨⟨v2, rfl, hv2⟩, ho2⟩
  have o2 := ho1.trans ho2
  obtain ⟨a1, cap1, b1, off1, rfl, hc11, hc12, ha1, ht1⟩ := (hv1.recs.old ho2)
  obtain ⟨a2, cap2, b2, off2, rfl, hc21, hc22, ha2, ht2⟩ := hv2.recs
  have Ha1 := Lib.hid ha1
  have Ha2 := Lib.hid ha2
  have Ht1 := Lib.hid ht1
  have Ht2 := Lib.hid ht2
  clear ha1 ha2 ht1 ht2 hv1 hv2
  have G5 := Lib.hid (fun (V : OldW w2) => H5.out V.w' (o2.trans V.old))
  go_upto_region 3 with fail
  refine wp_region_mild (Old.refl _) ?_
  repeat (go_big_quiet_step (first | with_reducible exact Calls.in_old (G5.out _)))
  refine wpQuiet_nil ?_
  rintro ⟨wq, hq⟩
  dsimp only
  go_wp2_with fail
  go_loopw [7] (fun j wr => ∃ k : Nat, k ≤ t.length ∧ j = .int .i64 k ∧ Old w2 wr) (fun j _ => t.length - (intOf j).toNat)
  case atStart => exact ⟨0, Nat.zero_le _, rfl, hq⟩
  case round =>
    obtain ⟨k, hk, rfl, ho⟩ := hrel
    by_cases hlt : k < t.length
    · have hk1 : (k : Int) < t.length := by omega
      obtain rfl := Ha1.out (by omega)
      obtain rfl := Ha2.out (by omega)
      obtain ⟨x, hx⟩ : ∃ x, t[k]? = some x := ⟨_, List.getElem?_eq_getElem hlt⟩
      have K1 := Recs.cellR Ht1.out hx
      have K2 := Recs.cellR Ht2.out hx
      have k1 := fun V (o : Old wr V) => (K1 V (ho.trans o)).1
      have k2 := fun V (o : Old wr V) => (K1 V (ho.trans o)).2.1
      have k3 := fun V (o : Old wr V) => (K1 V (ho.trans o)).2.2
      have j1 := fun V (o : Old wr V) => (K2 V (ho.trans o)).1
      have j2 := fun V (o : Old wr V) => (K2 V (ho.trans o)).2.1
      have j3 := fun V (o : Old wr V) => (K2 V (ho.trans o)).2.2
      clear K1 K2 hx
      generalize s.extract x.a x.e = tx at *
      go_upto_region 8 with fail
      refine wp_region_old (Old.refl _) (by kernel_rfl) (by kernel_rfl) ?_
      repeat (go_big_quiet_step (fail))
      refine wpQuiet_nil ?_
      rintro ⟨wv, hv⟩
      dsimp only
      go_wp2_with fail
      go_roundw
      case rel => exact ⟨k + 1, by omega, by go_num, ho.trans hv⟩
      case measure => simp [intOf]; omega
    · obtain rfl : k = t.length := by omega
      have o3 := o2.trans ho
      cases o with
      | none =>
        unfold cutV at H6 H7
        go_wp2_with fail
        refine (H6.out _ o3).mono ?_
        rintro e w4 ⟨rfl, ho4⟩
        go_wp2_with fail
        refine (H7.out _).mono ?_
        rintro e w5 ⟨rfl, ho5⟩
        go_wp2_with fail
        go_ret
        exact ⟨rfl, (o3.trans ho4).trans ho5⟩
      | some a =>
        unfold cutV at H6 H7
        dsimp only at H6 H7
        generalize s.extract 0 a = ta at *
        generalize s.extract a s.size = tb at *
        go_wp2_with fail
        refine (H6.out _ o3).mono ?_
        rintro e w4 ⟨rfl, ho4⟩
        go_wp2_with fail
        refine (H7.out _).mono ?_
        rintro e w5 ⟨rfl, ho5⟩
        go_wp2_with fail
        go_ret
        exact ⟨rfl, (o3.trans ho4).trans ho5⟩
end Go.Proofs.YtjkpmdckpfklgaaDoor
