/-
  TextOrders: the walk of the statement.
-/
import Derived.Test.YtjkpmdckpfklgaaDoorTextAwake
import Derived.Test.YtjkpmdckpfklgaaDoorTextRefI
namespace Go.Proofs.YtjkpmdckpfklgaaDoor
open Go.RowKit
attribute [local go_sem] Old.refl Old.alloc Old.drew Old.setCell OldW.old
set_option maxRecDepth 100000 in
set_option maxHeartbeats 6400000 in
theorem textOrders_row_walk (W : World) (hT : Tabs W) (a : ByteArray) (_ : a.size ≤ 9223372036854775807) (ya : a.size ≤ 1048576) (b : ByteArray) (_ : b.size ≤ 9223372036854775807) (yb : b.size ≤ 1048576) :
    Calls Tryd.prog 9 #[.string a, .string b] W fun e w' => e = .returned (.bool true) ∧ Old W w' := by
  have H1 := Lib.hid (fun V (o : Old W V) => Fold_any a V (hT.old o) (by omega))
  have H2 := Lib.hid (fun V => RFold_any a V (by omega))
  have H3 := Lib.hid (fun V (o : Old W V) => Compare_any a b V (hT.old o) (by omega) (by omega))
  have H4 := Lib.hid (fun V => RCompare_any a b V (by omega) (by omega))
  have H5 := Lib.hid (fun V (o : Old W V) => Compare_any b a V (hT.old o) (by omega) (by omega))
  have H6 := Lib.hid (fun V => RCompare_any b a V (by omega) (by omega))
  have H7 := Lib.hid (fun V (o : Old W V) => Group_any a V (hT.old o) (by omega))
  have H8 := Lib.hid (fun V => RGroup_any a V (by omega))
  have H9 := Lib.hid (fun V (o : Old W V) => awake_any V (hT.old o))
  generalize foldS a = fa at *
  generalize compareT a b = x at *
  generalize compareT b a = y at *
  generalize groupE (elsS a) = g at *
  go_enter Tryd.func9, Tryd.ntmps9
  go_upto_region 1 with fail
  refine wp_region_mild (Old.refl _) ?_
  repeat (go_big_quiet_step (first | with_reducible exact Calls.in_old (H1.out _ (OldW.old _)) | with_reducible exact Calls.in_old (H2.out _) | with_reducible exact Calls.in_old (H3.out _ (OldW.old _)) | with_reducible exact Calls.in_old (H4.out _) | with_reducible exact Calls.in_old (H5.out _ (OldW.old _)) | with_reducible exact Calls.in_old (H6.out _) | with_reducible exact Calls.in_old (H7.out _ (OldW.old _)) | with_reducible exact Calls.in_old (H8.out _) | with_reducible exact Calls.in_old (H9.out _ (OldW.old _))))
  refine wpQuiet_nil ?_
  rintro ⟨wq, hq⟩
  dsimp only
  go_wp2_with fail
  go_ret
  exact ⟨rfl, hq⟩
end Go.Proofs.YtjkpmdckpfklgaaDoor
