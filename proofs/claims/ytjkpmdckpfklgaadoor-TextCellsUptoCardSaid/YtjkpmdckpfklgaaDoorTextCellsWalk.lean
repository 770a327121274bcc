/-
  TextCells: the walk of the statement.
-/
import Derived.Test.YtjkpmdckpfklgaaDoorTextAwake
import Derived.Test.YtjkpmdckpfklgaaDoorTextRefC
namespace Go.Proofs.YtjkpmdckpfklgaaDoor
open Go.RowKit
attribute [local go_sem] Old.refl Old.alloc Old.drew Old.setCell OldW.old
set_option maxRecDepth 100000 in
set_option maxHeartbeats 3200000 in
theorem textCells_row_walk (W : World) (hT : Tabs W) (s : ByteArray) (_ : s.size ≤ 9223372036854775807) (y : s.size ≤ 1048576) :
    Calls Tryd.prog 4 #[.string s] W fun e w' => e = .returned (.bool true) ∧ Old W w' := by
  have H1 := Lib.hid (Cells_any s W hT (by omega))
  have H2 := Lib.hid (fun V => RCells_any s V (by omega))
  have H3 := Lib.hid (fun V (o : Old W V) => Wide_any s V (hT.old o) (by omega))
  have H4 := Lib.hid (fun V => RWide_any s V (by omega))
  have H5 := Lib.hid (fun V (o : Old W V) => awake_any V (hT.old o))
  have hlen := cellsL_len s.data.toList
  rw [str_len] at hlen
  generalize cellsL s.data.toList = t at *
  generalize wideS s = wd at *
  go_enter Tryd.func4, Tryd.ntmps4
  go_wp2_with fail
  refine H1.out.mono ?_
  rintro e w1 ⟨⟨v1, rfl, hv1⟩, ho1⟩
  go_wp2_with fail
  refine (H2.out _).mono ?_
  rintro e w2 ⟨⟨v2, rfl, hv2⟩, ho2⟩
  have o2 := ho1.trans ho2
  obtain ⟨a1, cap1, b1, off1, rfl, hc11, hc12, ha1, ht1⟩ := (hv1.recs.old ho2)
  obtain ⟨a2, cap2, b2, off2, rfl, hc21, hc22, ha2, ht2⟩ := hv2.recs
  have Ha1 := Lib.hid ha1
  have Ha2 := Lib.hid ha2
  have Ht1 := Lib.hid ht1
  have Ht2 := Lib.hid ht2
  clear ha1 ha2 ht1 ht2 hv1 hv2
  have G3 := Lib.hid (fun (V : OldW w2) => H3.out V.w' (o2.trans V.old))
  have G4 := Lib.hid (fun (V : OldW w2) => H4.out V.w')
  have G5 := Lib.hid (fun (V : OldW w2) => H5.out V.w' (o2.trans V.old))
  go_upto_region 3 with fail
  refine wp_region_mild (Old.refl _) ?_
  repeat (go_big_quiet_step (first | with_reducible exact Calls.in_old (G3.out _) | with_reducible exact Calls.in_old (G4.out _) | with_reducible exact Calls.in_old (G5.out _)))
  refine wpQuiet_nil ?_
  rintro ⟨wq, hq⟩
  dsimp only
  go_wp2_with fail
  go_loopw [5] (fun j wr => ∃ k : Nat, k ≤ t.length ∧ j = .int .i64 k ∧ Old w2 wr) (fun j _ => t.length - (intOf j).toNat)
  case atStart => exact ⟨0, Nat.zero_le _, rfl, hq⟩
  case round =>
    obtain ⟨k, hk, rfl, ho⟩ := hrel
    by_cases hlt : k < t.length
    · have hk1 : (k : Int) < t.length := by omega
      obtain rfl := Ha1.out (by omega)
      obtain rfl := Ha2.out (by omega)
      obtain ⟨x, hx⟩ : ∃ x, t[k]? = some x := ⟨_, List.getElem?_eq_getElem hlt⟩
      have K1 := Recs.cellR Ht1.out hx
      have K2 := Recs.cellR Ht2.out hx
      have k1 := fun V (o : Old wr V) => (K1 V (ho.trans o)).1
      have k2 := fun V (o : Old wr V) => (K1 V (ho.trans o)).2.1
      have k3 := fun V (o : Old wr V) => (K1 V (ho.trans o)).2.2
      have j1 := fun V (o : Old wr V) => (K2 V (ho.trans o)).1
      have j2 := fun V (o : Old wr V) => (K2 V (ho.trans o)).2.1
      have j3 := fun V (o : Old wr V) => (K2 V (ho.trans o)).2.2
      clear K1 K2 hx
      generalize s.extract x.a x.e = tx at *
      go_upto_region 8 with fail
      refine wp_region_old (Old.refl _) (by kernel_rfl) (by kernel_rfl) ?_
      repeat (go_big_quiet_step (fail))
      refine wpQuiet_nil ?_
      rintro ⟨wv, hv⟩
      dsimp only
      go_wp2_with fail
      go_roundw
      case rel => exact ⟨k + 1, by omega, by go_num, ho.trans hv⟩
      case measure => simp [intOf]; omega
    · obtain rfl : k = t.length := by omega
      go_wp2_with fail
      go_ret
      exact ⟨rfl, o2.trans ho⟩
end Go.Proofs.YtjkpmdckpfklgaaDoor
