/-
  OCTET, WALKS J: a text that may be; a text taken; the first examples.
-/
import Derived.Test.YtaclkoipobgmkaaDoorOctWalksI
import Derived.Test.YtaclkoipobgmkaaDoorTextWalksA
import Derived.Lib.SlBytesConst
namespace Go.Proofs.YtaclkoipobgmkaaDoor
open Go.RowKit
attribute [local go_sem] Old.refl Old.alloc Old.drew Old.setCell OldW.old

theorem May_any (s : ByteArray) (w : World) (hT : Tabs w) :
    Calls Tryd.prog 19 #[.string s] w fun e w' => e = .returned (.bool (plainAt s.data.toList 0).2) ∧ Old w w' := by
  have Hc := Lib.hid (Plain_any s w hT)
  go_enter Tryd.func19, Tryd.ntmps19
  go_wp2_with (go_at_call 44; refine Hc.out.mono ?_; rintro e w1 ⟨rfl, ho⟩)
  go_ret
  exact ⟨rfl, ho⟩
theorem Tabs.but {w0 w : World} (h : Tabs w0) (o : Old w0 w) : Tabs w := h.old o
/-- what is awake: 300 -/
theorem uint_300 : uintC [172, 2, 7] 0 0 = (300, 2, 0) := by
  have h1 : num [172, 2, 7] 0 0 0 = (300, 2, 0) := by
    rw [num_more (by decide) (by decide) (by decide), num_last (by decide) (by decide) (by decide) (by decide)]; decide
  rw [uintC_ok (by rw [h1]), h1]; rfl
theorem plain_a : plainAt [97] 0 = (0, true) := by
  have hc : chN [97] 0 = 1 := by decide +kernel
  rw [plainAt_on (by decide) (by decide +kernel), hc, plainAt_end (by decide)]
theorem crc_nine : crcN (nats [49, 50, 51, 52, 53, 54, 55, 56, 57]) = 3421780262 := by decide +kernel
theorem puts_300 : puts 300 = [172, 2] := by rw [puts_more (by decide), puts_last (by decide)]; decide
theorem puts_zig1 : puts (zig (-1)) = [1] := by rw [show zig (-1) = 1 by decide, puts_last (by decide)]; decide
theorem Nums.built {k : IntKind} (w : World) (E : TypeId) (l : List Int) {cs : Array Value} (h : cs = (l.map (Value.int k)).toArray) (hl : l.length ≤ 9223372036854775807) {n : Nat} (hn : l.length = n) :
    Nums k (w.alloc (.cells cs E)) (.slice (some ⟨w.heap.size, 0, none⟩) n n) l := by
  subst h hn
  refine Nums.mk (Nat.le_refl _) hl fun i hi => ?_
  rw [Nat.zero_add]
  simp [go_sem, ix, List.getD, hi]
theorem Nums.builtF {k : IntKind} (w : World) (E : TypeId) (fr : Nat × Nat) (l : List Int) {cs : Array Value} (h : cs = (l.map (Value.int k)).toArray) (hl : l.length ≤ 9223372036854775807) {n : Nat} (hn : l.length = n) :
    Nums k (w.alloc (.cells cs E fr)) (.slice (some ⟨w.heap.size, 0, none⟩) n n) l := by
  subst h hn
  refine Nums.mk (Nat.le_refl _) hl fun i hi => ?_
  rw [Nat.zero_add, World.cell?_alloc_mark]
  simp [ix, List.getD, hi]
set_option maxHeartbeats 1600000 in
theorem awake_any (w : World) (hT : Tabs w) :
    Calls Tryd.prog 9 #[] w fun e w' => e = .returned (.bool true) ∧ Old w w' := by
  have b0 : Byt [172, 2, 7] := by unfold Byt; decide
  have b1 : Byt [172, 2] := by unfold Byt; decide
  have b2 : Byt [1] := by unfold Byt; decide
  have b3 : Byt [49, 50, 51, 52, 53, 54, 55, 56, 57] := by unfold Byt; decide
  have kc := fun (w : World) (C : Array Value) (n c : Nat) => Lib.run_convert_bytes_const (P := Tryd.prog) w 22 5 C n c Tryd.underlying22 Tryd.underlying5
  go_enter Tryd.func9, Tryd.ntmps9
  go_wp2_with fail
  refine (New_any [172, 2, 7] _ _ (Nums.built w 5 [172, 2, 7] rfl (by decide) rfl) (by decide)).mono ?_
  rintro e w1 ⟨⟨c, rfl, hcw, hc⟩, ho1⟩
  have o1 : Old w w1 := ((Old.refl w).alloc _).trans ho1
  have hcw' : w.heap.size ≤ c := Nat.le_trans ((Old.refl w).alloc _).size hcw
  have Hc := Lib.hid hc
  clear hc ho1
  go_wp2_with fail
  refine (PutUint_any [] _ 300 w1 (Nums.nil w1) (by decide) (by decide)).mono ?_
  rw [puts_300]
  rintro e w2 ⟨⟨v2, rfl, hv2⟩, ho2⟩
  go_wp2_with fail
  refine (same_any [172, 2] [172, 2] _ _ _ (hv2.nums.old ((Old.refl w2).alloc _)) (Nums.built w2 5 [172, 2] rfl (by decide) rfl) b1 b1).mono ?_
  rw [eqL_self]
  rintro e w3 ⟨rfl, h3⟩
  have o3 : Old w1 w3 := by rw [← h3]; exact ho2.alloc _
  clear h3 hv2 ho2
  go_wp2_with fail
  refine (PutInt_any [] _ (-1) w3 (Nums.nil w3) (by decide) (by decide) (by decide)).mono ?_
  rw [puts_zig1]
  rintro e w4 ⟨⟨v4, rfl, hv4⟩, ho4⟩
  go_wp2_with fail
  refine (same_any [1] [1] _ _ _ (hv4.nums.old ((Old.refl w4).alloc _)) (Nums.built w4 5 [1] rfl (by decide) rfl) b2 b2).mono ?_
  rw [eqL_self]
  rintro e w5 ⟨rfl, h5⟩
  have o5 : Old w1 w5 := by rw [← h5]; exact o3.trans (ho4.alloc _)
  clear h5 hv4 ho4 o3
  go_wp2_with fail
  refine (Sum_any [49, 50, 51, 52, 53, 54, 55, 56, 57] _ _ (Nums.builtF w5 5 _ [49, 50, 51, 52, 53, 54, 55, 56, 57] rfl (by decide) rfl) b3).mono ?_
  rw [crc_nine]
  rintro e w6 ⟨rfl, h6⟩
  have o6 : Old w1 w6 := by rw [← h6]; exact o5.alloc _
  clear h6 o5
  go_wp2_with fail
  refine (Uint_any (Hc.out.old o6) b0 (by decide)).mono ?_
  rw [uint_300]
  rintro e w7 ⟨rfl, hc7, ho7⟩
  have o7 : Old w w7 := ho7.base (o1.trans o6) hcw'
  have Hc7 := Lib.hid hc7
  clear hc7 ho7
  go_wp2_with fail
  refine (At_any Hc7.out).mono ?_
  rintro e w8 ⟨rfl, rfl⟩
  go_wp2_with fail
  refine (Byte_any Hc7.out b0 (by decide)).mono ?_
  rw [show (takeC [172, 2, 7] 2 0 1) = ([7], 3, 0) from by decide]
  rintro e w9 ⟨rfl, hc9, ho9⟩
  have o9 : Old w w9 := ho9.base o7 hcw'
  go_wp2_with fail
  refine (End_any hc9 (by decide)).mono ?_
  rw [show endE [172, 2, 7] 3 0 = 0 from by decide]
  rintro e w10 ⟨rfl, h10⟩
  go_wp2_with fail
  refine (May_any _ w10 (hT.old (o9.trans h10))).mono ?_
  rw [show (plainAt (⟨#[97]⟩ : ByteArray).data.toList 0).2 = true from by rw [show (⟨#[97]⟩ : ByteArray).data.toList = [97] from rfl, plain_a]]
  rintro e w11 ⟨rfl, h11⟩
  go_wp2_with fail
  go_ret
  exact ⟨rfl, (o9.trans h10).trans h11⟩
end Go.Proofs.YtaclkoipobgmkaaDoor
