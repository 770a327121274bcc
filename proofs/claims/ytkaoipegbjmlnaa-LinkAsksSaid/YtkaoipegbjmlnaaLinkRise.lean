/-
  LINK: rising: a row of the call's own is sorted and made one of each.
-/
import Derived.Test.YtkaoipegbjmlnaaShelf08
import Derived.Lib.RowBridge
import Derived.Test.YtkaoipegbjmlnaaRise
import Derived.Test.YtkaoipegbjmlnaaLinkD
namespace Go.Proofs.Ytkaoipegbjmlnaa
open Go.RowKit Go.Sort
attribute [local go_sem] Old.refl Old.alloc Old.drew Old.setCell OldW.old

theorem grownBy_trans {a b c : World} {row : Option Nat} (h : a.grownBy b row) (k : b.grownBy c row) : a.grownBy c row :=
  ⟨k.os.trans h.os, k.tape.trans h.tape, k.output.trans h.output, Nat.le_trans h.size k.size, fun i hi hne => (k.block i (Nat.lt_of_lt_of_le hi h.size) hne).trans (h.block i hi hne)⟩
set_option maxRecDepth 100000 in
set_option maxHeartbeats 800000 in
theorem rises : Rises := by
  intro w0 w v l h hl
  have hcl := Lib.compact_length_le (l.mergeSort fun x y => decide (x ≤ y))
  have hsl : (l.mergeSort fun x y => decide (x ≤ y)).length = l.length := List.length_mergeSort l
  rcases h.2 with ⟨rfl, h0⟩ | ⟨g, cap, cur, rfl, hb, hg, hnc, hcm, hcs, htk⟩
  · obtain rfl : l = [] := List.eq_nil_of_length_eq_zero h0
    have Hr := Lib.hid (show riseL [] = [] from by unfold riseL; rw [List.mergeSort_nil]; rfl)
    have H1 := Lib.hid (Try.slices_Sort_int_none none 0 w)
    have H2 := Lib.hid (Try.slices_Compact_int_empty none 0 w)
    clear hcl hsl h h0 hl
    go_enter Try.func25, Try.ntmps25
    go_wp2_with fail
    refine H1.out.mono ?_
    rintro e w1 ⟨rfl, rfl⟩
    go_wp2_with fail
    refine H2.out.mono ?_
    rintro e w2 ⟨rfl, rfl⟩
    go_wp2_with fail
    go_ret
    exact ⟨_, rfl, by rw [Hr.out]; exact OwnI.nil _ _ _, rfl, World.grownBy.refl _ _⟩
  · have hgl : g < w.heap.size := (Array.getElem?_eq_some_iff.1 hg).1
    have hcap : l.length ≤ cap := hnc
    have H1 := Lib.hid (Try.slices_Sort_int g 0 cap l w h.holds hgl (by omega))
    have Hd := Lib.hid (show riseL l = Lib.compact (l.mergeSort fun x y => decide (x ≤ y)) from rfl)
    have Hh := Lib.hid (fun n os => h.put n (l.mergeSort fun x y => decide (x ≤ y)) os hsl l.length (by omega))
    have Hg1 := Lib.hid (fun n os => put_grown w n g (l.mergeSort fun x y => decide (x ≤ y)) os)
    clear h hg htk hcs
    generalize l.mergeSort (fun x y => decide (x ≤ y)) = sl at *
    go_enter Try.func25, Try.ntmps25
    go_wp2_with fail
    refine H1.out.mono ?_
    rintro e w1 ⟨rfl, n, os, hw1⟩
    have h1 := Hh.out n os
    have hg1 := Hg1.out n os
    rw [← hw1] at h1 hg1
    rw [← hsl, List.take_length] at h1
    clear hw1 Hh Hg1
    have H2 := Lib.hid (Try.slices_Compact_int g 0 cap sl w1 h1.holds (by omega) (by omega))
    rw [hsl] at H2
    have Hh2 := Lib.hid (fun q => h1.put q (Lib.compact sl ++ List.replicate (sl.length - (Lib.compact sl).length) 0) #[] (by rw [List.length_append, List.length_replicate]; omega) (Lib.compact sl).length (by rw [List.length_append]; omega))
    have Hg2 := Lib.hid (fun q => put_grown w1 q g (Lib.compact sl ++ List.replicate (sl.length - (Lib.compact sl).length) 0) #[])
    rw [hsl] at Hh2 Hg2
    clear h1
    go_wp2_with fail
    refine H2.out.mono ?_
    rintro e w2 ⟨rfl, q, hw2⟩
    have h2 := Hh2.out q
    have hg2 := Hg2.out q
    rw [grow_empty, ← hw2] at h2 hg2
    rw [List.take_left] at h2
    clear hw2 Hh2 Hg2 H1 H2
    go_wp2_with fail
    go_ret
    exact ⟨_, rfl, by rw [Hd.out]; exact h2, rfl, grownBy_trans hg1 hg2⟩
end Go.Proofs.Ytkaoipegbjmlnaa
