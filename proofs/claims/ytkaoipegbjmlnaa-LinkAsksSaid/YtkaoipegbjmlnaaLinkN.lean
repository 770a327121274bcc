/-
  LINK, N: the chapter's first examples hold.
-/
import Derived.Test.YtkaoipegbjmlnaaLinkM
import Derived.Test.YtkaoipegbjmlnaaLinkRise
namespace Go.Proofs.Ytkaoipegbjmlnaa
open Go.RowKit
attribute [local go_sem] Old.refl Old.alloc Old.drew Old.setCell OldW.old

def exP : List (Int × Int) := [(0, 1), (0, 2), (1, 3), (2, 3), (3, 0)]
theorem exP_map : exP.map mkR = exL := rfl
theorem ints_same (u v : Value) (l : List Int) (w : World) (hl : Ints w u l) (hm : Ints w v l) : Calls Try.prog 13 #[u, v] w fun e w' => e = .returned (.bool true) ∧ Old w w' :=
  (ints_any u v l l w hl hm).mono fun e w' h => by
    rw [decide_eq_true (rfl : l = l)] at h
    exact h
theorem ints_lit (W : World) (E : TypeId) (l : List Int) {n k : Nat} (hn : n = W.heap.size) (hk : k = l.length) (h : l.length ≤ 9223372036854775807) : Ints (W.alloc (.cells (l.map (Value.int .i64)).toArray E)) (.slice (some ⟨n, 0, none⟩) k k) l := by
  subst hn; subst hk
  refine Ints.mk (Nat.le_refl _) h fun i hi => ?_
  rw [cell_of_row _ _ _ _ _ _ (heap_alloc_new W _)]
  simp [ix, List.getD, hi]
set_option maxRecDepth 100000 in
set_option maxHeartbeats 1600000 in
theorem awake_any (w : World) : Calls Try.prog 6 #[] w fun e w' => e = .returned (.bool true) ∧ Old w w' := by
  have o1 : Old w (w.alloc (.cells (pr2E.all exP).toArray 41)) := (Old.refl w).alloc _
  have HP := Lib.hid (pairs_any (.slice (some ⟨w.heap.size, 0, none⟩) 5 5) exP (w.alloc (.cells (pr2E.all exP).toArray 41)) (Recs.mk (t := exP) (Nat.le_refl 5) (by decide) (fun j u hu => by
    rw [cell_of_row _ _ _ _ _ _ (heap_alloc_new w _)]; simpa using hu)) (by decide))
  go_enter Try.func6, Try.ntmps6
  go_wp2_with fail
  refine HP.out.mono ?_
  rintro e w2 ⟨⟨u, rfl, hu⟩, o2⟩
  have HL : Hid (Recs rfE w2 u exL) := hu.recs
  have o3 := o1.trans o2
  clear hu
  go_wp2_with fail
  refine (Out_any rises u exL 4 0 _ HL.out).mono ?_
  rintro e w3 ⟨⟨v3, rfl, h3⟩, o4⟩
  go_wp2_with fail
  refine (Way_any rises u exL 4 0 3 _ (HL.out.old o4)).mono ?_
  rintro e w4 ⟨⟨v4, c4, rfl, _, h4⟩, o5⟩
  go_wp2_with fail
  refine (Orphans_any u exL 5 _ (HL.out.old (o4.trans o5))).mono ?_
  rintro e w5 ⟨⟨v5, rfl, h5⟩, o6⟩
  go_wp2_with fail
  refine (Reach_any rises u exL 5 3 _ (HL.out.old ((o4.trans o5).trans o6))).mono ?_
  rintro e w6 ⟨⟨v6, rfl, h6, _⟩, o7⟩
  have e3 : asksE exL.length 4 [0] = 0 := by decide
  have e4 : asksE exL.length 4 [0, 3] = 0 := by decide
  have e5 : asksE exL.length 5 [] = 0 := by decide
  have e6 : asksE exL.length 5 [3] = 0 := by decide
  rw [e3, if_pos rfl, ex_out] at h3
  rw [e5, if_pos rfl, ex_lone] at h5
  obtain ⟨D6, h6, s6⟩ := h6 e6
  rw [show (5 : Int).toNat = 5 from rfl, ex_reach s6] at h6
  obtain ⟨D4, s4, h4⟩ := h4 e4
  obtain ⟨k4, k4'⟩ := ex_way s4
  have hc : c4 = 0 ∧ OwnI 3 w3 w4 v4 [0, 1, 3] := by
    rcases h4 with ⟨h, _⟩ | ⟨d, hd, hc, h⟩
    · rw [k4] at h; cases h
    · rw [k4] at hd
      obtain rfl := Option.some.inj hd
      refine ⟨hc, ?_⟩
      rw [← k4']; exact h
  obtain ⟨rfl, h4'⟩ := hc
  have I3 := Lib.hid (((h3.ints.old o5).old o6).old o7)
  have I4 := Lib.hid ((h4'.ints.old o6).old o7)
  have I5 := Lib.hid (h5.ints.old o7)
  have I6 := Lib.hid h6.ints
  have oo := (((o3.trans o4).trans o5).trans o6).trans o7
  rw [e3, e5, e6]
  clear h3 h4 h5 h6 h4' s4 s6 k4 k4' e3 e4 e5 e6
  go_upto_region 6 with fail
  go_wp2_with fail
  refine (ints_same _ _ [1, 2] _ (I3.out.old ((Old.refl w6).alloc _)) (ints_lit w6 3 [1, 2] rfl rfl (by decide))).mono ?_
  rintro e w7 ⟨rfl, p7⟩
  have q7 : Old w6 w7 := ((Old.refl w6).alloc _).trans p7
  clear p7
  go_wp2_with fail
  refine (ints_same _ _ [0, 1, 3] _ (I4.out.old (q7.alloc _)) (ints_lit w7 3 [0, 1, 3] rfl rfl (by decide))).mono ?_
  rintro e w8 ⟨rfl, p8⟩
  have q8 : Old w6 w8 := (q7.alloc _).trans p8
  clear p8
  go_wp2_with fail
  refine (ints_same _ _ [4] _ (I5.out.old (q8.alloc _)) (ints_lit w8 3 [4] rfl rfl (by decide))).mono ?_
  rintro e w9 ⟨rfl, p9⟩
  have q9 : Old w6 w9 := (q8.alloc _).trans p9
  clear p9
  go_wp2_with fail
  refine (ints_same _ _ [0, 1, 2, 3] _ (I6.out.old (q9.alloc _)) (ints_lit w9 3 [0, 1, 2, 3] rfl rfl (by decide))).mono ?_
  rintro e w10 ⟨rfl, p10⟩
  have q10 : Old w6 w10 := (q9.alloc _).trans p10
  clear p10
  go_wp2_with fail
  go_ret
  exact ⟨rfl, oo.trans q10⟩
end Go.Proofs.Ytkaoipegbjmlnaa
