/-
  TextChars: the walk of the statement.
-/
import Derived.Test.YtjkpmdckpfklgaaDoorTextGood
import Derived.Test.YtjkpmdckpfklgaaDoorTextAwake
namespace Go.Proofs.YtjkpmdckpfklgaaDoor
open Go.RowKit
attribute [local go_sem] Old.refl Old.alloc Old.drew Old.setCell OldW.old
set_option maxRecDepth 100000 in
set_option maxHeartbeats 1600000 in
theorem textChars_row_walk (W : World) (hT : Tabs W) (s : ByteArray) (_ : s.size ≤ 9223372036854775807) (y : s.size ≤ 1048576) :
    Calls Tryd.prog 10 #[.string s] W fun e w' => e = .returned (.bool true) ∧ Old W w' := by
  have H1 := Lib.hid (fun V (o : Old W V) => Good_any s V (hT.old o))
  have H2 := Lib.hid (fun V => RGood_any s V (by omega))
  have H3 := Lib.hid (fun V (o : Old W V) => awake_any V (hT.old o))
  have H4 := Lib.hid (fun V (o : Old W V) => Plain_any s V (hT.old o))
  have H5 := Lib.hid (fun V => RPlain_any s V (by omega))
  generalize (goodAt s.data.toList 0).1 = a at *
  generalize (goodAt s.data.toList 0).2 = b at *
  generalize (plainAt s.data.toList 0).1 = c at *
  generalize (plainAt s.data.toList 0).2 = d at *
  go_enter Tryd.func10, Tryd.ntmps10
  go_wp2_with fail
  refine (H1.out _ (Old.refl W)).mono ?_
  rintro e w1 ⟨rfl, ho1⟩
  go_wp2_with fail
  refine (H2.out _).mono ?_
  rintro e w2 ⟨rfl, ho2⟩
  have o2 := ho1.trans ho2
  go_wp2_with fail
  refine (H3.out _ o2).mono ?_
  rintro e w3 ⟨rfl, ho3⟩
  have o3 := o2.trans ho3
  go_wp2_with fail
  refine (H4.out _ o3).mono ?_
  rintro e w4 ⟨rfl, ho4⟩
  go_wp2_with fail
  refine (H5.out _).mono ?_
  rintro e w5 ⟨rfl, ho5⟩
  go_wp2_with fail
  go_ret
  exact ⟨rfl, (o3.trans ho4).trans ho5⟩
end Go.Proofs.YtjkpmdckpfklgaaDoor
