/-
  WALKS E: the reference's may, Check, Good; the laws' awake.
-/
import Derived.Test.YtigpjfebnppejaaTocWalksD
namespace Go.Proofs.Ytigpjfebnppejaa
open Go.RowKit Go.Maps
attribute [local go_sem] Old.refl Old.alloc Old.drew Old.setCell OldW.old

set_option maxHeartbeats 400000 in
theorem may_any (t : List (Int × Int)) (l : Int) (v : Value) (w : World) (hT : Prs w v t) (ha0 : 0 ≤ ahead t t.length) (ha8 : ahead t t.length ≤ 8) :
    Calls Try.prog 47 #[v, .int .i64 l] w fun e w' => e = .returned (.bool (levelB l (ahead t t.length))) ∧ Old w w' := by
  obtain ⟨a, cap, b, off, rfl, hn1, hn2, ha, ht0, ht1⟩ := hT
  have hn : t.length ≤ 9223372036854775807 := by omega
  by_cases hl : 0 < t.length
  · obtain rfl := ha hl
    have e : ahead t t.length = p1 t (t.length - 1) := by unfold ahead; rw [if_neg (by omega)]
    rw [e] at ha0 ha8
    have He := Lib.hid e
    have g1 := ht1 (t.length - 1) (by omega)
    clear e ha
    go_enter Try.func47, Try.ntmps47
    go_wp2
    all_goals go_ret
    all_goals refine ⟨ret_bool ?_, Old.refl _⟩
    all_goals rw [He.out]
    all_goals simp [levelB, *]
    all_goals omega
  · have e : ahead t t.length = 0 := by unfold ahead; rw [if_pos (by omega)]
    have hl0 : t.length = 0 := by omega
    have He := Lib.hid e
    clear e ha ht0 ht1
    go_enter Try.func47, Try.ntmps47
    go_wp2
    all_goals go_ret
    all_goals refine ⟨ret_bool ?_, Old.refl _⟩
    all_goals first | rw [He.out] | rw [show ahead t 0 = 0 by simp [ahead]]
    all_goals simp [levelB, *]
    all_goals omega

set_option maxRecDepth 100000 in
set_option maxHeartbeats 1600000 in
theorem rcheck_any (t : List (Int × Int)) (n : Int) (v : Value) (w : World) (hT : Prs w v t) :
    Calls Try.prog 20 #[v, .int .i64 n] w fun e w' => e = .returned (.tuple #[.int .i64 (chk t n).1, .int .i64 (chk t n).2]) ∧ Old w w' := by
  have hT' := Lib.hid hT
  obtain ⟨a, cap, b, off, rfl, hn1, hn2, ha, ht0, ht1⟩ := hT
  by_cases hlen : 1000 < t.length
  · go_enter Try.func20, Try.ntmps20
    go_wp2_with fail
    go_ret2
    exact ⟨ret_chk (by rw [chk, if_pos hlen]), Old.refl _⟩
  · have hl : t.length ≤ 1000 := by omega
    have Hchk := Lib.hid (show chk t n = chkFrom t n 0 by rw [chk, if_neg hlen])
    clear hlen
    go_enter Try.func20, Try.ntmps20
    go_wp2_with fail
    go_loopw [6] (fun j wr => ∃ k : Nat, k ≤ t.length ∧ j = .int .i64 k ∧ 0 ≤ ahead t k ∧ ahead t k ≤ 8 ∧ chkFrom t n k = chkFrom t n 0 ∧ Old w wr) (fun j _ => t.length - (intOf j).toNat)
    case atStart => exact ⟨0, by omega, rfl, by simp [ahead], by simp [ahead], rfl, Old.refl _⟩
    case round =>
      obtain ⟨k, hk, rfl, hah0, hah8, hat, hold⟩ := hrel
      have hat' := Lib.hid hat
      clear hat
      by_cases hlt : k < t.length
      · obtain rfl := ha (by omega)
        have hP : ∀ W, Old w W → Prs W (.slice (some ⟨b, off, none⟩) k cap) (t.take k) := fun W h => (hT'.out.old h).take hk
        have HMay : Hid (∀ W, Old w W → Calls Try.prog 47 #[.slice (some ⟨b, off, none⟩) k cap, .int .i64 (p1 t k)] W fun e w' => e = .returned (.bool (levelB (p1 t k) (ahead t k))) ∧ Old W w') := fun W h => by
          have e := ahead_take hk
          have := may_any (t.take k) (p1 t k) _ _ (hP W h) (by rw [e]; exact hah0) (by rw [e]; exact hah8)
          rwa [e] at this
        have HP := Lib.hid hP
        have Hseen := Lib.hid (seenB_take hk)
        clear hP
        by_cases hr : p0 t k < 0 ∨ n ≤ p0 t k
        · have Hb := Lib.hid (badAt_range hr)
          go_wp2_with fail
          all_goals go_ret2
          all_goals exact ⟨ret_chk (by rw [Hchk.out, ← hat'.out]; exact chkFrom_stop hlt Hb.out (by decide)), hold⟩
        · have hr0 : 0 ≤ p0 t k := by omega
          have hr1 : p0 t k < n := by omega
          clear hr
          go_wp2_with fail
          refine wp_region_old hold (by kernel_rfl) (by kernel_rfl) ?_
          repeat (go_big_quiet_step ((go_at_call 47; exact Calls.in_old (HMay.out _ (OldW.old _)))))
          refine wpQuiet_nil ?_
          rintro ⟨wq, hq⟩
          dsimp only
          go_wp2_with fail
          · go_ret2
            exact ⟨ret_chk (by rw [Hchk.out, ← hat'.out]; exact chkFrom_stop hlt (badAt_level hr0 hr1 (by simpa using ‹(!levelB (p1 t k) (ahead t k)) = true›)) (by decide)), hq⟩
          · have hlev : levelB (p1 t k) (ahead t k) = true := by simpa using ‹(!levelB (p1 t k) (ahead t k)) = false›
            have hrg := levelB_range hlev
            refine wp_region_old hq (by kernel_rfl) (by kernel_rfl) ?_
            repeat (go_big_quiet_step ((go_at_call 48; exact Calls.in_old (rat_any (t.take k) (p0 t k) _ _ (HP.out _ (OldW.old _))))))
            refine wpQuiet_nil ?_
            rintro ⟨wp, hp⟩
            dsimp only
            go_wp2_with fail
            · go_ret2
              exact ⟨ret_chk (by rw [Hchk.out, ← hat'.out]; exact chkFrom_stop hlt (badAt_twice hr0 hr1 hlev (by rw [Hseen.out]; simpa using ‹_›)) (by decide)), hp⟩
            · have hs : seenB t k = false := by rw [Hseen.out]; simp; omega
              go_roundw
              case rel => exact ⟨k + 1, by omega, by go_num, by rw [ahead_succ]; omega, by rw [ahead_succ]; omega, by rw [← hat'.out]; exact (chkFrom_go hlt (badAt_fine hr0 hr1 hlev hs)).symm, hp⟩
              case measure => simp [intOf]; omega
      · have he := Lib.hid (chkFrom_end (n := n) hlt)
        go_wp2_with fail
        go_ret2
        exact ⟨ret_chk (by rw [Hchk.out, ← hat'.out, he.out]), hold⟩

theorem rgood_any (t : List (Int × Int)) (v : Value) (w : World) (hT : Prs w v t) :
    Calls Try.prog 10 #[v] w fun e w' => e = .returned (.int .i64 (goodE t)) ∧ Old w w' := by
  have hT' := Lib.hid hT
  clear hT
  go_enter Try.func10, Try.ntmps10
  go_wp2_with (go_at_call 20; refine (rcheck_any t 1000 v _ hT'.out).mono ?_; rintro e w1 ⟨rfl, ho1⟩)
  go_ret
  exact ⟨rfl, ho1⟩

/-! ### awake -/
def five : List (Int × Int) := [(4, 1), (0, 2), (2, 3), (7, 2), (1, 1)]
theorem five_good : Good five := by
  refine ⟨by decide, fun k hk => ?_, fun k hk => ?_, fun i k hik hk => ?_⟩
  · match k, hk with
    | 0, _ | 1, _ | 2, _ | 3, _ | 4, _ => decide
  · match k, hk with
    | 0, _ | 1, _ | 2, _ | 3, _ | 4, _ => decide
  · have hk5 : k < 5 := hk
    match k, hk5, i, hik with
    | 1, _, 0, _ | 2, _, 0, _ | 2, _, 1, _ | 3, _, 0, _ | 3, _, 1, _ | 3, _, 2, _ | 4, _, 0, _ | 4, _, 1, _ | 4, _, 2, _ | 4, _, 3, _ => decide
theorem five_goodE : goodE five = 0 := (goodE_zero _).2 five_good
theorem five_at2 : atFrom five 2 0 = 2 := by
  rw [atFrom_miss (by decide) (by decide), atFrom_miss (by decide) (by decide), atFrom_hit (by decide) (by decide)]; rfl
theorem five_at4 : atFrom five 4 0 = 0 := by rw [atFrom_hit (by decide) (by decide)]; rfl
theorem five_par : par five 3 = 0 := by decide
theorem five_kids : (kids five 0).map Int.ofNat = [1, 3] := by decide
theorem five_next : stepT five 2 1 = (7, 0) := by
  rw [stepT, if_pos five_goodE, five_at2, if_neg (by decide)]; rfl
theorem five_prev : stepT five 4 (-1) = (0, 3) := by
  rw [stepT, if_pos five_goodE, five_at4, if_pos (by decide)]
theorem five_path : pathT five 2 = ([4, 0, 2], 0) := by
  rw [pathT, if_pos five_goodE, five_at2, if_neg (by decide)]
  have h2 : upL five 2 = [2, 0, 4] := by
    rw [upL_deep (j := 1) (by decide), upL_deep (j := 0) (by decide), upL_root (by decide)]; rfl
  show ((upL five 2).reverse, (0 : Int)) = _
  rw [h2]; rfl
set_option maxRecDepth 100000 in
set_option maxHeartbeats 2000000 in
theorem awake_any (w : World) : Calls Try.prog 9 #[] w fun e w' => e = .returned (.bool true) ∧ Old w w' := by
  have hat3 : atE five 3 = 0 := atE_in five_goodE (by decide) (by decide)
  have hat0 : atE five 0 = 0 := atE_in five_goodE (by decide) (by decide)
  have Hat3 := Lib.hid hat3
  have Hat0 := Lib.hid hat0
  clear hat3 hat0
  go_enter Try.func9, Try.ntmps9
  go_wp2_with fail
  refine (five_any _).mono ?_
  rintro e w1 ⟨⟨v1, rfl, hv1⟩, ho1⟩
  go_wp2_with fail
  refine (Parent_in five 3 v1 _ hv1 Hat3.out).mono ?_
  rw [five_par]
  rintro e w2 ⟨rfl, ho2⟩
  go_wp2_with fail
  refine (five_any _).mono ?_
  rintro e w3 ⟨⟨v3, rfl, hv3⟩, ho3⟩
  go_wp2_with fail
  refine (Kids_in five 0 v3 _ hv3 Hat0.out).mono ?_
  rintro e w4 ⟨⟨v4, rfl, hv4⟩, ho4⟩
  go_wp2_with fail
  refine (five_any _).mono ?_
  rintro e w5 ⟨⟨v5, rfl, hv5⟩, ho5⟩
  go_wp2_with fail
  refine (Path_any five 2 v5 _ hv5).mono ?_
  rw [five_path]
  rintro e w6 ⟨⟨v6, rfl, hv6⟩, ho6⟩
  go_wp2_with fail
  refine (five_any _).mono ?_
  rintro e w7 ⟨⟨v7, rfl, hv7⟩, ho7⟩
  go_wp2_with fail
  refine (Next_any five 2 v7 _ hv7).mono ?_
  rw [five_next]
  rintro e w8 ⟨rfl, ho8⟩
  go_wp2_with fail
  refine (five_any _).mono ?_
  rintro e w9 ⟨⟨v9, rfl, hv9⟩, ho9⟩
  go_wp2_with fail
  refine (Prev_any five 4 v9 _ hv9).mono ?_
  rw [five_prev]
  rintro e wA ⟨rfl, hoA⟩
  go_wp2_with fail
  have hv4' : Ints wA v4 [1, 3] := by rw [← five_kids]; exact hv4.ints.old (((((ho5.trans ho6).trans ho7).trans ho8).trans ho9).trans hoA)
  have hv6' : Ints wA v6 [4, 0, 2] := hv6.old (((ho7.trans ho8).trans ho9).trans hoA)
  refine (ints_any [1, 3] [1, 3] v4 _ _ (hv4'.old ((Old.refl _).alloc _)) (Ints.mk (l := [1, 3]) (cap := 2) (by simp) (by simp) fun i hi => ?_)).mono ?_
  · match i, hi with
    | 0, _ | 1, _ => simp [go_sem, ix]
  rw [eqB_self]
  rintro e wB ⟨rfl, hoB⟩
  go_wp2_with fail
  refine (ints_any [4, 0, 2] [4, 0, 2] v6 _ _ (hv6'.old ((((Old.refl _).alloc _).trans hoB).alloc _)) (Ints.mk (l := [4, 0, 2]) (cap := 3) (by simp) (by simp) fun i hi => ?_)).mono ?_
  · match i, hi with
    | 0, _ | 1, _ | 2, _ => simp [go_sem, ix]
  rw [eqB_self]
  rintro e wC ⟨rfl, hoC⟩
  go_wp2_with fail
  go_ret
  have hA : Old w wA := (((((((((ho1.trans ho2).trans ho3).trans ho4).trans ho5).trans ho6).trans ho7).trans ho8).trans ho9).trans hoA)
  exact ⟨rfl, (((hA.alloc _).trans hoB).alloc _).trans hoC⟩
end Go.Proofs.Ytigpjfebnppejaa
