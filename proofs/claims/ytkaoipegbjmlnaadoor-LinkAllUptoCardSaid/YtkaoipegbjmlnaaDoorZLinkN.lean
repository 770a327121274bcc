/-
  A ROW OF THE CALL's OWN, SORTED AND MADE ONE OF EACH: over no program.
-/
import Derived.Test.YtkaoipegbjmlnaaDoorZOwn
import Derived.Test.YtkaoipegbjmlnaaDoorZLinkP
import Derived.Sort.Grow
import Derived.Test.YtkaoipegbjmlnaaDoorZShelf08
import Derived.Lib.RowBridge
import Derived.Test.YtkaoipegbjmlnaaDoorZLinkD
import Derived.Test.YtkaoipegbjmlnaaDoorZLinkM
namespace Go.Proofs.YtkaoipegbjmlnaaDoor
open Go.RowKit Go.Sort

theorem put_heap {w : World} {k g : Nat} {d : List Int} {os : Array Obj} {cur : Array Value} {E : TypeId} {fr : Nat × Nat} (hg : w.heap[g]? = some (.cells cur E fr)) :
    (grow (putRow (Value.int .i64) (Go.Sort.ahead w k) g 0 d.toArray) os).heap[g]? = some (.cells (putCells (Value.int .i64) 0 d.toArray cur) E fr) := by
  have hlt : g < w.heap.size := (Array.getElem?_eq_some_iff.1 hg).1
  rw [heap_grow_old _ _ (by simpa using hlt)]
  unfold putRow mapBlock
  simp only [heap_ahead, Array.getElem?_modify, if_true, hg]
  rfl
theorem put_other {w : World} {k g i : Nat} {d : List Int} {os : Array Obj} (hi : i < w.heap.size) (hne : i ≠ g) :
    (grow (putRow (Value.int .i64) (Go.Sort.ahead w k) g 0 d.toArray) os).heap[i]? = w.heap[i]? := by
  rw [heap_grow_old _ _ (by simpa using hi)]
  unfold putRow mapBlock
  simp only [heap_ahead, Array.getElem?_modify]
  rw [if_neg (Ne.symm hne)]
theorem put_grown (w : World) (k g : Nat) (d : List Int) (os : Array Obj) : w.grownBy (grow (putRow (Value.int .i64) (Go.Sort.ahead w k) g 0 d.toArray) os) (some g) :=
  ⟨rfl, rfl, rfl, by simp, fun i hi hne => put_other hi (fun e => hne (by rw [e]))⟩
theorem putCells_take {d : List Int} {cur : Array Value} {m : Nat} (hm : m ≤ d.length) (hd : d.length ≤ cur.size) : (putCells (Value.int .i64) 0 d.toArray cur).toList.take m = (d.take m).map (Value.int .i64) := by
  refine List.ext_getElem? fun j => ?_
  rw [List.getElem?_map]
  rcases Nat.lt_or_ge j m with h | h
  · rw [List.getElem?_take_of_lt h, List.getElem?_take_of_lt h, Array.getElem?_toList]
    unfold putCells
    rw [Array.getElem?_mapIdx, Array.getElem?_eq_getElem (by omega), Option.map_some, if_pos ⟨Nat.zero_le _, by simp; omega⟩, Nat.sub_zero, getElem!_pos d.toArray j (by simp; omega), List.getElem?_eq_getElem (by omega)]
    simp
  · rw [List.getElem?_eq_none (by rw [List.length_take]; omega), List.getElem?_eq_none (by rw [List.length_take]; omega)]; rfl
/-- the row laid anew, perhaps shorter -/
theorem OwnI.put {E : TypeId} {w0 w : World} {g n cap : Nat} {l : List Int} (h : OwnI E w0 w (.slice (some ⟨g, 0, none⟩) n cap) l) (k : Nat) (d : List Int) (os : Array Obj) (hd : d.length = l.length) (m : Nat) (hm : m ≤ d.length) :
    OwnI E w0 (grow (putRow (Value.int .i64) (Go.Sort.ahead w k) g 0 d.toArray) os) (.slice (some ⟨g, 0, none⟩) m cap) (d.take m) := by
  obtain rfl := h.len
  obtain ⟨h1, h2⟩ := h
  rcases h2 with ⟨hv, _⟩ | ⟨g', cap', cur, hv, hb, hg, hnc, hcm, hcs, htk⟩
  · cases hv
  · obtain ⟨rfl, rfl⟩ : g = g' ∧ cap = cap' := by
      injection hv with a1 a2 a3
      injection a1 with a1
      injection a1 with a1
      exact ⟨a1, a3⟩
    have hl : (d.take m).length = m := by rw [List.length_take]; omega
    refine ⟨by rw [List.length_map, hl, Nat.mul_one], .inr ⟨g, cap, _, by rw [hl], hb, put_heap hg, by omega, hcm, by simp [putCells]; simpa using hcs, ?_⟩⟩
    rw [hl, Nat.mul_one]
    exact putCells_take hm (by simp at hcs; omega)
/-- the row's cells, in the sort's words -/
theorem OwnI.holds {E : TypeId} {w0 w : World} {g n cap : Nat} {l : List Int} (h : OwnI E w0 w (.slice (some ⟨g, 0, none⟩) n cap) l) : Holds (Value.int .i64) w g 0 l.toArray := fun j hj => by
  have hj' : j < l.length := by simpa using hj
  rw [Nat.zero_add, h.cell hj', h.frozen j, getElem!_pos l.toArray j hj]
  refine ⟨?_, rfl⟩
  simp [ix, List.getD, hj']
end Go.Proofs.YtkaoipegbjmlnaaDoor
/-
  LINK: rising: a row of the call's own is sorted and made one of each.
-/




namespace Go.Proofs.YtkaoipegbjmlnaaDoor
open Go.RowKit Go.Sort
attribute [local go_sem] Old.refl Old.alloc Old.drew Old.setCell OldW.old

theorem grownBy_trans {a b c : World} {row : Option Nat} (h : a.grownBy b row) (k : b.grownBy c row) : a.grownBy c row :=
  ⟨k.os.trans h.os, k.tape.trans h.tape, k.output.trans h.output, Nat.le_trans h.size k.size, fun i hi hne => (k.block i (Nat.lt_of_lt_of_le hi h.size) hne).trans (h.block i hi hne)⟩
set_option maxRecDepth 100000 in
set_option maxHeartbeats 800000 in
theorem rises : Rises := by
  intro w0 w v l h hl
  have hcl := Lib.compact_length_le (l.mergeSort fun x y => decide (x ≤ y))
  have hsl : (l.mergeSort fun x y => decide (x ≤ y)).length = l.length := List.length_mergeSort l
  rcases h.2 with ⟨rfl, h0⟩ | ⟨g, cap, cur, rfl, hb, hg, hnc, hcm, hcs, htk⟩
  · obtain rfl : l = [] := List.eq_nil_of_length_eq_zero h0
    have Hr := Lib.hid (show riseL [] = [] from by unfold riseL; rw [List.mergeSort_nil]; rfl)
    have H1 := Lib.hid (Tryd.slices_Sort_int_none none 0 w)
    have H2 := Lib.hid (Tryd.slices_Compact_int_empty none 0 w)
    clear hcl hsl h h0 hl
    go_enter Tryd.func28, Tryd.ntmps28
    go_wp2_with fail
    refine H1.out.mono ?_
    rintro e w1 ⟨rfl, rfl⟩
    go_wp2_with fail
    refine H2.out.mono ?_
    rintro e w2 ⟨rfl, rfl⟩
    go_wp2_with fail
    go_ret
    exact ⟨_, rfl, by rw [Hr.out]; exact OwnI.nil _ _ _, rfl, World.grownBy.refl _ _⟩
  · have hgl : g < w.heap.size := (Array.getElem?_eq_some_iff.1 hg).1
    have hcap : l.length ≤ cap := hnc
    have H1 := Lib.hid (Tryd.slices_Sort_int g 0 cap l w h.holds hgl (by omega))
    have Hd := Lib.hid (show riseL l = Lib.compact (l.mergeSort fun x y => decide (x ≤ y)) from rfl)
    have Hh := Lib.hid (fun n os => h.put n (l.mergeSort fun x y => decide (x ≤ y)) os hsl l.length (by omega))
    have Hg1 := Lib.hid (fun n os => put_grown w n g (l.mergeSort fun x y => decide (x ≤ y)) os)
    clear h hg htk hcs
    generalize l.mergeSort (fun x y => decide (x ≤ y)) = sl at *
    go_enter Tryd.func28, Tryd.ntmps28
    go_wp2_with fail
    refine H1.out.mono ?_
    rintro e w1 ⟨rfl, n, os, hw1⟩
    have h1 := Hh.out n os
    have hg1 := Hg1.out n os
    rw [← hw1] at h1 hg1
    rw [← hsl, List.take_length] at h1
    clear hw1 Hh Hg1
    have H2 := Lib.hid (Tryd.slices_Compact_int g 0 cap sl w1 h1.holds (by omega) (by omega))
    rw [hsl] at H2
    have Hh2 := Lib.hid (fun q => h1.put q (Lib.compact sl ++ List.replicate (sl.length - (Lib.compact sl).length) 0) #[] (by rw [List.length_append, List.length_replicate]; omega) (Lib.compact sl).length (by rw [List.length_append]; omega))
    have Hg2 := Lib.hid (fun q => put_grown w1 q g (Lib.compact sl ++ List.replicate (sl.length - (Lib.compact sl).length) 0) #[])
    rw [hsl] at Hh2 Hg2
    clear h1
    go_wp2_with fail
    refine H2.out.mono ?_
    rintro e w2 ⟨rfl, q, hw2⟩
    have h2 := Hh2.out q
    have hg2 := Hg2.out q
    rw [grow_empty, ← hw2] at h2 hg2
    rw [List.take_left] at h2
    clear hw2 Hh2 Hg2 H1 H2
    go_wp2_with fail
    go_ret
    exact ⟨_, rfl, by rw [Hd.out]; exact h2, rfl, grownBy_trans hg1 hg2⟩
end Go.Proofs.YtkaoipegbjmlnaaDoor
/-
  LINK, N: the chapter's first examples hold.
-/


namespace Go.Proofs.YtkaoipegbjmlnaaDoor
open Go.RowKit
attribute [local go_sem] Old.refl Old.alloc Old.drew Old.setCell OldW.old

def exP : List (Int × Int) := [(0, 1), (0, 2), (1, 3), (2, 3), (3, 0)]
theorem exP_map : exP.map mkR = exL := rfl
theorem ints_same (u v : Value) (l : List Int) (w : World) (hl : Ints w u l) (hm : Ints w v l) : Calls Tryd.prog 22 #[u, v] w fun e w' => e = .returned (.bool true) ∧ Old w w' :=
  (ints_any u v l l w hl hm).mono fun e w' h => by
    rw [decide_eq_true (rfl : l = l)] at h
    exact h
theorem ints_lit (W : World) (E : TypeId) (l : List Int) {n k : Nat} (hn : n = W.heap.size) (hk : k = l.length) (h : l.length ≤ 9223372036854775807) : Ints (W.alloc (.cells (l.map (Value.int .i64)).toArray E)) (.slice (some ⟨n, 0, none⟩) k k) l := by
  subst hn; subst hk
  refine Ints.mk (Nat.le_refl _) h fun i hi => ?_
  rw [cell_of_row _ _ _ _ _ _ (heap_alloc_new W _)]
  simp [ix, List.getD, hi]
set_option maxRecDepth 100000 in
set_option maxHeartbeats 1600000 in
theorem awake_any (w : World) : Calls Tryd.prog 10 #[] w fun e w' => e = .returned (.bool true) ∧ Old w w' := by
  have o1 : Old w (w.alloc (.cells (pr2E.all exP).toArray 79)) := (Old.refl w).alloc _
  have HP := Lib.hid (pairs_any (.slice (some ⟨w.heap.size, 0, none⟩) 5 5) exP (w.alloc (.cells (pr2E.all exP).toArray 79)) (Recs.mk (t := exP) (Nat.le_refl 5) (by decide) (fun j u hu => by
    rw [cell_of_row _ _ _ _ _ _ (heap_alloc_new w _)]; simpa using hu)) (by decide))
  go_enter Tryd.func10, Tryd.ntmps10
  go_wp2_with fail
  refine HP.out.mono ?_
  rintro e w2 ⟨⟨u, rfl, hu⟩, o2⟩
  have HL : Hid (Recs rfE w2 u exL) := hu.recs
  have o3 := o1.trans o2
  clear hu
  go_wp2_with fail
  refine (Out_any rises u exL 4 0 _ HL.out).mono ?_
  rintro e w3 ⟨⟨v3, rfl, h3⟩, o4⟩
  go_wp2_with fail
  refine (Way_any rises u exL 4 0 3 _ (HL.out.old o4)).mono ?_
  rintro e w4 ⟨⟨v4, c4, rfl, _, h4⟩, o5⟩
  go_wp2_with fail
  refine (Orphans_any u exL 5 _ (HL.out.old (o4.trans o5))).mono ?_
  rintro e w5 ⟨⟨v5, rfl, h5⟩, o6⟩
  go_wp2_with fail
  refine (Reach_any rises u exL 5 3 _ (HL.out.old ((o4.trans o5).trans o6))).mono ?_
  rintro e w6 ⟨⟨v6, rfl, h6, _⟩, o7⟩
  have e3 : asksE exL.length 4 [0] = 0 := by decide
  have e4 : asksE exL.length 4 [0, 3] = 0 := by decide
  have e5 : asksE exL.length 5 [] = 0 := by decide
  have e6 : asksE exL.length 5 [3] = 0 := by decide
  rw [e3, if_pos rfl, ex_out] at h3
  rw [e5, if_pos rfl, ex_lone] at h5
  obtain ⟨D6, h6, s6⟩ := h6 e6
  rw [show (5 : Int).toNat = 5 from rfl, ex_reach s6] at h6
  obtain ⟨D4, s4, h4⟩ := h4 e4
  obtain ⟨k4, k4'⟩ := ex_way s4
  have hc : c4 = 0 ∧ OwnI 3 w3 w4 v4 [0, 1, 3] := by
    rcases h4 with ⟨h, _⟩ | ⟨d, hd, hc, h⟩
    · rw [k4] at h; cases h
    · rw [k4] at hd
      obtain rfl := Option.some.inj hd
      refine ⟨hc, ?_⟩
      rw [← k4']; exact h
  obtain ⟨rfl, h4'⟩ := hc
  have I3 := Lib.hid (((h3.ints.old o5).old o6).old o7)
  have I4 := Lib.hid ((h4'.ints.old o6).old o7)
  have I5 := Lib.hid (h5.ints.old o7)
  have I6 := Lib.hid h6.ints
  have oo := (((o3.trans o4).trans o5).trans o6).trans o7
  rw [e3, e5, e6]
  clear h3 h4 h5 h6 h4' s4 s6 k4 k4' e3 e4 e5 e6
  go_upto_region 6 with fail
  go_wp2_with fail
  refine (ints_same _ _ [1, 2] _ (I3.out.old ((Old.refl w6).alloc _)) (ints_lit w6 3 [1, 2] rfl rfl (by decide))).mono ?_
  rintro e w7 ⟨rfl, p7⟩
  have q7 : Old w6 w7 := ((Old.refl w6).alloc _).trans p7
  clear p7
  go_wp2_with fail
  refine (ints_same _ _ [0, 1, 3] _ (I4.out.old (q7.alloc _)) (ints_lit w7 3 [0, 1, 3] rfl rfl (by decide))).mono ?_
  rintro e w8 ⟨rfl, p8⟩
  have q8 : Old w6 w8 := (q7.alloc _).trans p8
  clear p8
  go_wp2_with fail
  refine (ints_same _ _ [4] _ (I5.out.old (q8.alloc _)) (ints_lit w8 3 [4] rfl rfl (by decide))).mono ?_
  rintro e w9 ⟨rfl, p9⟩
  have q9 : Old w6 w9 := (q8.alloc _).trans p9
  clear p9
  go_wp2_with fail
  refine (ints_same _ _ [0, 1, 2, 3] _ (I6.out.old (q9.alloc _)) (ints_lit w9 3 [0, 1, 2, 3] rfl rfl (by decide))).mono ?_
  rintro e w10 ⟨rfl, p10⟩
  have q10 : Old w6 w10 := (q9.alloc _).trans p10
  clear p10
  go_wp2_with fail
  go_ret
  exact ⟨rfl, oo.trans q10⟩
end Go.Proofs.YtkaoipegbjmlnaaDoor
