/-
  TextTotal: the walk of the statement.
-/
import Derived.Test.YtjkpmdckpfklgaaDoorTextAwake
import Derived.Test.YtjkpmdckpfklgaaDoorTextOrder
import Derived.Test.YtjkpmdckpfklgaaDoorTextCodesWalk
namespace Go.Proofs.YtjkpmdckpfklgaaDoor
open Go.RowKit
attribute [local go_sem] Old.refl Old.alloc Old.drew Old.setCell OldW.old
set_option maxRecDepth 100000 in
set_option maxHeartbeats 6400000 in
theorem textTotal_row_walk (W : World) (hT : Tabs W) (a : ByteArray) (_ : a.size ≤ 9223372036854775807) (ya : a.size ≤ 1048576) (b : ByteArray) (_ : b.size ≤ 9223372036854775807) (yb : b.size ≤ 1048576) (c : ByteArray) (_ : c.size ≤ 9223372036854775807) (yc : c.size ≤ 1048576) :
    Calls Tryd.prog 6 #[.string a, .string b, .string c] W fun e w' => e = .returned (.bool true) ∧ Old W w' := by
  have hx := compareT_rng a b
  have hy := compareT_rng b c
  have hz := compareT_rng a c
  have ht1 := @compareT_trans a b c
  have ht2 := @compareT_trans c b a
  rw [compareT_anti b c, compareT_anti a b, compareT_anti a c] at ht2
  have hst : (a.toList == b.toList) = decide (compareT a b = 0) := by
    rw [str_beq, Bool.eq_iff_iff, decide_eq_true_iff, decide_eq_true_iff]; exact compareT_zero.symm
  have han := compareT_anti a b
  have h0 := compareT_zero.2 (rfl : a = a)
  have H5 := Lib.hid (fun V (o : Old W V) => Compare_at h0 V (hT.old o) (by omega) (by omega))
  have H6 := Lib.hid (fun V (o : Old W V) => awake_any V (hT.old o))
  clear h0
  have H1 := Lib.hid (fun V (o : Old W V) => Compare_any a b V (hT.old o) (by omega) (by omega))
  have H2 := Lib.hid (fun V (o : Old W V) => Compare_any b c V (hT.old o) (by omega) (by omega))
  have H3 := Lib.hid (fun V (o : Old W V) => Compare_any a c V (hT.old o) (by omega) (by omega))
  have H4 := Lib.hid (fun V (o : Old W V) => Compare_any b a V (hT.old o) (by omega) (by omega))
  rw [han] at H4
  clear han
  generalize compareT a b = x at *
  generalize compareT b c = y at *
  generalize compareT a c = z at *
  have hs1 : x ≤ 0 → y ≤ 0 → z ≤ 0 := ht1
  have hs2 : 0 ≤ x → 0 ≤ y → 0 ≤ z := fun h1 h2 => by have := ht2 (by omega) (by omega); omega
  clear ht1 ht2
  have hx3 : x = -1 ∨ x = 0 ∨ x = 1 := by omega
  have hy3 : y = -1 ∨ y = 0 ∨ y = 1 := by omega
  have hz3 : z = -1 ∨ z = 0 ∨ z = 1 := by omega
  clear hx hy hz
  rcases hx3 with rfl | rfl | rfl
  all_goals rcases hy3 with rfl | rfl | rfl
  all_goals rcases hz3 with rfl | rfl | rfl
  all_goals first
    | (exfalso; omega)
    | skip
  all_goals clear hs1 hs2
  all_goals simp only [Int.reduceNeg, Int.neg_neg, Int.neg_zero, decide_true, decide_false, Int.reduceEq] at H4 hst
  all_goals
    go_enter Tryd.func6, Tryd.ntmps6
    go_upto_region 1 with fail
    refine wp_region_mild (Old.refl _) ?_
    repeat (go_big_quiet_step (first | with_reducible exact Calls.in_old (H1.out _ (OldW.old _)) | with_reducible exact Calls.in_old (H2.out _ (OldW.old _)) | with_reducible exact Calls.in_old (H3.out _ (OldW.old _))))
    refine wpQuiet_nil ?_
    rintro ⟨wq, hq⟩
    dsimp only
    go_upto_region 2 with fail
    refine wp_region_mild hq ?_
    repeat (go_big_quiet_step (first | with_reducible exact Calls.in_old (H6.out _ (OldW.old _)) | with_reducible exact Calls.in_old (H4.out _ (OldW.old _)) | with_reducible exact Calls.in_old (H5.out _ (OldW.old _))))
    refine wpQuiet_nil ?_
    rintro ⟨wv, hv⟩
    dsimp only
    go_wp2_with fail
    go_ret
    exact ⟨rfl, hv⟩
end Go.Proofs.YtjkpmdckpfklgaaDoor
