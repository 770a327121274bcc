/-
  TEXT, AWAKE: the walk of the chapter's examples.
-/
import Derived.Test.YtjkpmdckpfklgaaDoorTextAwakeP
import Derived.Test.YtjkpmdckpfklgaaDoorQuiet
namespace Go.Proofs.YtjkpmdckpfklgaaDoor
open Go.RowKit
attribute [local go_sem] Old.refl Old.alloc Old.drew Old.setCell OldW.old

theorem Width_at {r : Int} {n : Nat} (h : widC r = n) (hr : -2147483648 ≤ r ∧ r ≤ 2147483647) (w : World) : Calls Tryd.prog 13 #[.int .i32 r] w fun e w' => e = .returned (.int .i64 n) ∧ Old w w' := by
  subst h; exact Width_any r w hr
theorem Compare_at {a b : ByteArray} {c : Int} (h : compareT a b = c) (w : World) (hT : Tabs w) (ha : a.size ≤ 4194304) (hb : b.size ≤ 4194304) :
    Calls Tryd.prog 25 #[.string a, .string b] w fun e w' => e = .returned (.int .i64 c) ∧ Old w w' := by
  subst h; exact Compare_any a b w hT ha hb
theorem Fold_at {a c : ByteArray} (h : foldS a = c) (w : World) (hT : Tabs w) (ha : a.size ≤ 4194304) :
    Calls Tryd.prog 26 #[.string a] w fun e w' => e = .returned (.string c) ∧ Old w w' := by
  subst h; exact Fold_any a w hT ha
set_option maxRecDepth 100000 in
set_option maxHeartbeats 3200000 in
theorem awake_any (w : World) (hT : Tabs w) : Calls Tryd.prog 19 #[] w fun e w' => e = .returned (.bool true) ∧ Old w w' := by
  have HW := Lib.hid (Words_any sW w hT (by decide))
  have HC := Lib.hid (fun V (o : Old w V) => Cells_any sC V (hT.old o) (by decide))
  rw [words_W] at HW
  rw [cells_C] at HC
  unfold sW at HW
  unfold sC at HC
  go_enter Tryd.func19, Tryd.ntmps19
  go_wp2_with fail
  refine HW.out.mono ?_
  rintro e w1 ⟨⟨v1, rfl, hv1⟩, ho1⟩
  go_wp2_with fail
  refine (HC.out _ ho1).mono ?_
  rintro e w2 ⟨⟨v2, rfl, hv2⟩, ho2⟩
  obtain ⟨a1, cap1, b1, off1, rfl, _, _, ha1, ht1⟩ := (hv1.recs.old ho2)
  obtain ⟨a2, cap2, b2, off2, rfl, _, _, ha2, ht2⟩ := hv2.recs
  obtain rfl := ha1 (by decide)
  obtain rfl := ha2 (by decide)
  have k1 : ∀ V, Old w2 V → V.cell? ⟨b1, off1 + 4, none⟩ = some (.int .i64 (4 : Nat)) := fun V o => ht1 4 _ rfl V o
  have k0 : ∀ V, Old w2 V → V.cell? ⟨b1, off1 + 3, none⟩ = some (.string ⟨#[98, 99]⟩) := fun V o => ht1 3 _ rfl V o
  have j1 : ∀ V, Old w2 V → V.cell? ⟨b2, off2 + 4, none⟩ = some (.int .i64 (3 : Nat)) := fun V o => ht2 4 _ rfl V o
  have hTw : Tabs w2 := (hT.old ho1).old ho2
  have H1 := Lib.hid (fun (W : OldW w2) => Width_at wid97 (by decide) W.w')
  have H2 := Lib.hid (fun (W : OldW w2) => Width_at wid20013 (by decide) W.w')
  have H3 := Lib.hid (fun (W : OldW w2) => Width_at wid769 (by decide) W.w')
  have H4 := Lib.hid (fun (W : OldW w2) => Compare_at cmp_AB W.w' (hTw.old W.old) (by decide) (by decide))
  have H5 := Lib.hid (fun (W : OldW w2) => Fold_at fold_F W.w' (hTw.old W.old) (by decide))
  unfold sA sB at H4
  unfold sF at H5
  have how := ho1.trans ho2
  clear ht1 ht2 ha1 ha2 hv1 hv2 HW HC hTw
  go_upto_region 3 with fail
  refine wp_region_mild (Old.refl _) ?_
  repeat (go_big_quiet_step (first | with_reducible exact Calls.in_old (H1.out _) | with_reducible exact Calls.in_old (H2.out _) | with_reducible exact Calls.in_old (H3.out _) | with_reducible exact Calls.in_old (H4.out _) | with_reducible exact Calls.in_old (H5.out _)))
  refine wpQuiet_nil ?_
  rintro ⟨wq, hq⟩
  dsimp only
  go_wp2_with fail
  go_ret
  exact ⟨rfl, how.trans hq⟩
end Go.Proofs.YtjkpmdckpfklgaaDoor
