/-
  WALKS H: the reference's End and Kids.
-/
import Derived.Test.YtigpjfebnppejaaTocWalksG
namespace Go.Proofs.Ytigpjfebnppejaa
open Go.RowKit Go.Maps
attribute [local go_sem] Old.refl Old.alloc Old.drew Old.setCell OldW.old

set_option maxHeartbeats 1600000 in
theorem rEnd_any (t : List (Int × Int)) (i : Int) (v : Value) (w : World) (hT : Prs w v t) :
    Calls Try.prog 24 #[v, .int .i64 i] w fun e w' => e = .returned (.tuple #[.int .i64 (endT t i).1, .int .i64 (endT t i).2]) ∧ Old w w' := by
  obtain ⟨a, cap, rfl, hn1, hn2⟩ := hT.form
  have hT' := Lib.hid hT
  clear hT
  by_cases hg : goodE t = 0
  · have hg1 : (goodE t != 0) = false := by simp [hg]
    have Hg := Lib.hid hg
    have HG := Lib.hid ((goodE_zero t).1 hg)
    have hlen := HG.out.len
    clear hg
    by_cases hr : i < 0 ∨ (t.length : Int) ≤ i
    · have Hs := Lib.hid (show endT t i = (0, 1) by rw [endT_bad (by rw [atE_out Hg.out hr]; decide), atE_out Hg.out hr])
      go_enter Try.func24, Try.ntmps24
      go_wp2_with (go_at_call 10; refine (rgood_any t _ _ hT'.out).mono ?_; rintro e w1 ⟨rfl, ho1⟩)
      all_goals go_ret2
      all_goals exact ⟨ret_pair Hs.out, ho1⟩
    · obtain ⟨j, rfl⟩ := Int.eq_ofNat_of_zero_le (a := i) (by omega)
      have hj : j < t.length := by omega
      have Hs := Lib.hid (show endT t (j : Int) = ((endp t j : Int), 0) from endT_in (atE_in Hg.out (by omega) (by omega)))
      have he := endp_range t j hj
      have hd0 : decide ((j : Int) < 0) = false := by simp
      have hd1 : decide (t.length ≤ j) = false := by simp; omega
      clear hr
      go_enter Try.func24, Try.ntmps24
      go_wp2_with (go_at_call 10; refine (rgood_any t _ _ hT'.out).mono ?_; rintro e w1 ⟨rfl, ho1⟩)
      go_loopw [7] (fun x wr => ∃ k : Nat, j < k ∧ k ≤ endp t j ∧ x = .int .i64 k ∧ Old w wr) (fun x _ => t.length - (intOf x).toNat)
      case atStart => exact ⟨j + 1, by omega, by omega, by go_num, ho1⟩
      case round =>
        obtain ⟨k, hk1, hk2, rfl, hold⟩ := hrel
        by_cases hkl : k < t.length
        · have Hb := Lib.hid (below_ref t k j _ _ (hT'.out.old hold) HG.out hkl)
          have Ha := Lib.hid (HG.out.anc_iff hj k hkl hk1)
          by_cases hke : k < endp t j
          · go_wp2_with (go_at_call 50; refine (Calls.old hold Hb.out).mono ?_; rw [Ha.out, decide_eq_true hke]; rintro e w2 ⟨rfl, ho2⟩)
            go_roundw
            case rel => exact ⟨k + 1, by omega, by omega, by go_num, ho2⟩
            case measure => simp [intOf]; omega
          · go_wp2_with (go_at_call 50; refine (Calls.old hold Hb.out).mono ?_; rw [Ha.out, decide_eq_false hke]; rintro e w2 ⟨rfl, ho2⟩)
            go_ret2
            exact ⟨ret_pair (by rw [Hs.out]; have : endp t j = k := by omega
                                rw [this]), ho2⟩
        · go_wp2_with fail
          go_ret2
          exact ⟨ret_pair (by rw [Hs.out]; have : endp t j = k := by omega
                              rw [this]), hold⟩
  · have hg1 : (goodE t != 0) = true := by simpa using hg
    have Hs := Lib.hid (show endT t i = (0, goodE t) by rw [endT_bad (by rw [atE_bad hg]; exact hg), atE_bad hg])
    clear hg
    go_enter Try.func24, Try.ntmps24
    go_wp2_with (go_at_call 10; refine (rgood_any t _ _ hT'.out).mono ?_; rintro e w1 ⟨rfl, ho1⟩)
    go_ret2
    exact ⟨ret_pair Hs.out, ho1⟩

set_option maxRecDepth 100000 in
set_option maxHeartbeats 1600000 in
theorem rKids_any (t : List (Int × Int)) (i : Int) (v : Value) (w : World) (hT : Prs w v t) :
    Calls Try.prog 25 #[v, .int .i64 i] w fun e w' => RetIntsE w' (kidsT t i).1 (kidsT t i).2 e ∧ Old w w' := by
  obtain ⟨a, cap, rfl, hn1, hn2⟩ := hT.form
  have hT' := Lib.hid hT
  clear hT
  by_cases hg : goodE t = 0
  · have hg1 : (goodE t != 0) = false := by simp [hg]
    have Hg := Lib.hid hg
    have HG := Lib.hid ((goodE_zero t).1 hg)
    have hlen := HG.out.len
    clear hg
    by_cases hr : i < -1 ∨ (t.length : Int) ≤ i
    · have Hs := Lib.hid (kidsT_out Hg.out hr)
      go_enter Try.func25, Try.ntmps25
      go_wp2_with (go_at_call 10; refine (rgood_any t _ _ hT'.out).mono ?_; rintro e w1 ⟨rfl, ho1⟩)
      all_goals go_ret2
      all_goals exact ⟨by rw [Hs.out]; exact ⟨_, rfl, Ints.nil _⟩, ho1⟩
    · have Hs := Lib.hid (kidsT_in Hg.out hr)
      have hr1 : -1 ≤ i := by omega
      have hr2 : i < (t.length : Int) := by omega
      clear hr
      go_enter Try.func25, Try.ntmps25
      go_wp2_with (go_at_call 10; refine (rgood_any t _ _ hT'.out).mono ?_; rintro e w1 ⟨rfl, ho1⟩)
      go_loopw [7, 8] (fun u x wr => ∃ k : Nat, k ≤ t.length ∧ x = .int .i64 k ∧ OwnI 3 w wr u (kidsTo t i k) ∧ Old w wr) (fun _ x _ => t.length - (intOf x).toNat)
      case atStart => exact ⟨0, by omega, rfl, OwnI.nil _ _ _, ho1⟩
      case round =>
        obtain ⟨k, hk, rfl, hown, hold⟩ := hrel
        have hrl := kidsTo_len t i k
        by_cases hlt : k < t.length
        · have hlev := HG.out.lev k hlt
          obtain ⟨au, cu, rfl, _, _⟩ := ownsRow_form hown
          go_wp2_with (first
            | (go_at_call 49; refine (above_any t _ k _ _ (hT'.out.old hold) hlt rfl hlev.1 hlev.2.1).mono ?_; rintro e w2 ⟨rfl, ho2⟩; have hold2 := hold.trans ho2; have hown2 := hown.old ho2)
            | (at_builtin; refine wpList_append_ints (w0 := w) rfl _ _ 25 rfl 3 Try.underlying25 infoInt _ (kidsTo t i k) [(k : Int)] rfl (hown2.alloc _) _ rfl (Ints.one _ _ (k : Int)) (by simp; omega) (hold2.alloc _) ?_; intro v' w3 hown3 ho3 hg3; obtain ⟨g', cap', rfl, _, _⟩ := ownsRow_form hown3))
          · have h9 : OwnI 3 w w3 (.slice g' (kidsTo t i k ++ [(k : Int)]).length cap') (kidsTo t i (k + 1)) := by
              rw [kidsTo_yes ‹_›]; exact hown3
            go_roundw
            case rel => exact ⟨k + 1, by omega, by go_num, by simpa using h9, ho3⟩
            case measure => simp [intOf]; omega
          · have h9 : OwnI 3 w w2 (.slice au (kidsTo t i k).length cu) (kidsTo t i (k + 1)) := by
              rw [kidsTo_no ‹_›]; exact hown2
            go_roundw
            case rel => exact ⟨k + 1, by omega, by go_num, h9, hold2⟩
            case measure => simp [intOf]; omega
        · obtain rfl : k = t.length := by omega
          go_wp2_with fail
          go_ret2
          exact ⟨by rw [Hs.out]; exact ⟨_, rfl, hown.ints⟩, hold⟩
  · have hg1 : (goodE t != 0) = true := by simpa using hg
    have Hs := Lib.hid (kidsT_bad (i := i) hg)
    clear hg
    go_enter Try.func25, Try.ntmps25
    go_wp2_with (go_at_call 10; refine (rgood_any t _ _ hT'.out).mono ?_; rintro e w1 ⟨rfl, ho1⟩)
    go_ret2
    exact ⟨by rw [Hs.out]; exact ⟨_, rfl, Ints.nil _⟩, ho1⟩
end Go.Proofs.Ytigpjfebnppejaa
