/-
  TEXT, COMPARE: two texts.
-/
import Derived.Test.YtjkpmdckpfklgaaDoorTextCompare3
namespace Go.Proofs.YtjkpmdckpfklgaaDoor
open Go.RowKit
attribute [local go_sem] Old.refl Old.alloc Old.drew Old.setCell OldW.old

theorem str_beq (a b : ByteArray) : (a.toList == b.toList) = decide (a = b) := by
  rw [ByteArray.toList_eq, ByteArray.toList_eq, Bool.eq_iff_iff, beq_iff_eq, decide_eq_true_iff]
  exact ⟨fun h => ByteArray.ext (Array.toList_inj.1 h), fun h => by rw [h]⟩
/-- two texts compared -/
def compareT (a b : ByteArray) : Int :=
  if a = b then 0 else orL [lexL cmpEl (elsS a) (elsS b), lexL (byF smallC) (runesI a) (runesI b), lexL (byF id) (runesI a) (runesI b), Lib.compareBytes a.data.toList b.data.toList]
set_option maxRecDepth 100000 in
set_option maxHeartbeats 1600000 in
theorem Compare_any (a b : ByteArray) (w : World) (hT : Tabs w) (ha : a.size ≤ 4194304) (hb : b.size ≤ 4194304) :
    Calls Tryd.prog 25 #[.string a, .string b] w fun e w' => e = .returned (.int .i64 (compareT a b)) ∧ Old w w' := by
  by_cases h : a = b
  · have Hs := Lib.hid (show compareT a b = 0 from if_pos h)
    have hs : (a.toList == b.toList) = true := by rw [str_beq]; simpa using h
    clear h
    go_enter Tryd.func25, Tryd.ntmps25
    go_wp2_with fail
    go_ret
    exact ⟨by rw [Hs.out]; rfl, Old.refl _⟩
  · have Hs := Lib.hid (show compareT a b = _ from if_neg h)
    have hs : (a.toList == b.toList) = false := by rw [str_beq]; simpa using h
    clear h
    have H1 := Lib.hid (fun V (o : Old w V) => byElements_any a b V (hT.old o) ha hb)
    have H2 := Lib.hid (fun V => byRunes_small a b V ha hb)
    have H3 := Lib.hid (fun V => byRunes_same a b V ha hb)
    have H4 := Lib.hid (fun V => Tryd.strings_Compare a b V)
    generalize lexL cmpEl (elsS a) (elsS b) = c1 at *
    generalize lexL (byF smallC) (runesI a) (runesI b) = c2 at *
    generalize lexL (byF id) (runesI a) (runesI b) = c3 at *
    generalize Lib.compareBytes a.data.toList b.data.toList = c4 at *
    go_enter Tryd.func25, Tryd.ntmps25
    go_wp2_with fail
    refine (H1.out _ (Old.refl w)).mono ?_
    rintro e w1 ⟨rfl, ho1⟩
    go_wp2_with fail
    refine (H2.out _).mono ?_
    rintro e w2 ⟨rfl, ho2⟩
    go_wp2_with fail
    refine (H3.out _).mono ?_
    rintro e w3 ⟨rfl, ho3⟩
    go_wp2_with fail
    refine (H4.out _).mono ?_
    rintro e w4 ⟨rfl, rfl⟩
    go_wp2_with fail
    refine (Or_any _ [c1, c2, c3, c4] _ (Nums.fresh _ 3 _)).mono ?_
    rintro e w5 ⟨rfl, rfl⟩
    go_wp2_with fail
    go_ret
    exact ⟨by rw [Hs.out]; rfl, ((ho1.trans ho2).trans ho3).alloc _⟩
end Go.Proofs.YtjkpmdckpfklgaaDoor
