/-
  WALKS G: what TocAsks asks: Find, Parent, End, Kids of the program and of the reference, as one model each.
-/
import Derived.Test.YtigpjfebnppejaaTocWalksE
import Derived.Test.YtigpjfebnppejaaTocPlain4
namespace Go.Proofs.Ytigpjfebnppejaa
open Go.RowKit Go.Maps
attribute [local go_sem] Old.refl Old.alloc Old.drew Old.setCell OldW.old

theorem ret_pair {q : Int × Int} {a b : Int} (h : q = (a, b)) : Ending.returned (.tuple #[.int .i64 a, .int .i64 b]) = .returned (.tuple #[.int .i64 q.1, .int .i64 q.2]) := by rw [h]
theorem ret_found {q : Int × Bool} {a : Int} {b : Bool} (h : q = (a, b)) : Ending.returned (.tuple #[.int .i64 a, .bool b]) = .returned (.tuple #[.int .i64 q.1, .bool q.2]) := by rw [h]
/-! ### the program's -/
theorem Parent_any (t : List (Int × Int)) (i : Int) (v : Value) (w : World) (hT : Prs w v t) :
    Calls Try.prog 13 #[v, .int .i64 i] w fun e w' => e = .returned (.tuple #[.int .i64 (parentT t i).1, .int .i64 (parentT t i).2]) ∧ Old w w' := by
  by_cases h : atE t i = 0
  · obtain ⟨j, rfl⟩ := Int.eq_ofNat_of_zero_le (atE_zero h).2.1
    rw [show parentT t (j : Int) = _ from parentT_in h]
    exact Parent_in t j v w hT h
  · rw [parentT_bad h]
    exact Parent_bad t i v w hT (by simpa using h)
theorem End_any (t : List (Int × Int)) (i : Int) (v : Value) (w : World) (hT : Prs w v t) :
    Calls Try.prog 14 #[v, .int .i64 i] w fun e w' => e = .returned (.tuple #[.int .i64 (endT t i).1, .int .i64 (endT t i).2]) ∧ Old w w' := by
  by_cases h : atE t i = 0
  · obtain ⟨j, rfl⟩ := Int.eq_ofNat_of_zero_le (atE_zero h).2.1
    rw [show endT t (j : Int) = _ from endT_in h]
    exact End_in t j v w hT h
  · rw [endT_bad h]
    exact End_bad t i v w hT (by simpa using h)
theorem Kids_any (t : List (Int × Int)) (i : Int) (v : Value) (w : World) (hT : Prs w v t) :
    Calls Try.prog 11 #[v, .int .i64 i] w fun e w' => RetIntsE w' (kidsT t i).1 (kidsT t i).2 e ∧ Old w w' := by
  by_cases h1 : i = -1
  · subst h1
    by_cases h : goodE t = 0
    · rw [kidsT_in h (by omega)]
      refine (Kids_root t v w hT h).mono ?_
      rintro e w' ⟨⟨u, rfl, hu⟩, ho⟩
      exact ⟨⟨u, rfl, hu.ints⟩, ho⟩
    · rw [kidsT_bad h]
      refine (Kids_root_bad t v w hT (by simpa using h)).mono ?_
      rintro e w' ⟨rfl, ho⟩
      exact ⟨⟨_, rfl, Ints.nil _⟩, ho⟩
  · by_cases h : atE t i = 0
    · have hz := atE_zero h
      obtain ⟨j, rfl⟩ := Int.eq_ofNat_of_zero_le hz.2.1
      rw [show kidsT t (j : Int) = _ from kidsT_in hz.1 (by omega)]
      refine (Kids_in t j v w hT h).mono ?_
      rintro e w' ⟨⟨u, rfl, hu⟩, ho⟩
      exact ⟨⟨u, rfl, hu.ints⟩, ho⟩
    · refine (Kids_bad t i v w hT (by simpa using h1) (by simpa using h)).mono ?_
      rintro e w' ⟨rfl, ho⟩
      have e2 : kidsT t i = ([], atE t i) := by
        by_cases hg : goodE t = 0
        · by_cases hr : i < 0 ∨ (t.length : Int) ≤ i
          · rw [kidsT_out hg (by omega), atE_out hg hr]
          · exact absurd (atE_in hg (by omega) (by omega)) h
        · rw [kidsT_bad hg, atE_bad hg]
      rw [e2]
      exact ⟨⟨_, rfl, Ints.nil _⟩, ho⟩
set_option maxHeartbeats 400000 in
theorem Find_any (t : List (Int × Int)) (x : Int) (v : Value) (w : World) (hT : Prs w v t) :
    Calls Try.prog 21 #[v, .int .i64 x] w fun e w' => e = .returned (.tuple #[.int .i64 (findT t x).1, .bool (findT t x).2]) ∧ Old w w' := by
  have hT' := Lib.hid hT
  clear hT
  by_cases hg : goodE t = 0
  · have hg1 : (goodE t != 0) = false := by simp [hg]
    have Hg := Lib.hid hg
    clear hg
    rcases atFrom_cases t x 0 with ⟨h1, _⟩ | ⟨j, h1, _, h3, _, _⟩
    · have Hs := Lib.hid (show findT t x = (0, false) by rw [findT, if_pos Hg.out, if_pos (by omega)])
      have H1 := Lib.hid h1
      clear h1
      go_enter Try.func21, Try.ntmps21
      go_wp2_with (first
        | (go_at_call 39; refine (good_any t _ _ hT'.out).mono ?_; rintro e w1 ⟨rfl, ho1⟩)
        | (go_at_call 44; refine (Calls.old ho1 (find_any t x _ _ (hT'.out.old ho1))).mono ?_; rw [H1.out]; rintro e w2 ⟨rfl, ho2⟩))
      go_ret2
      exact ⟨ret_found Hs.out, ho2⟩
    · have Hs := Lib.hid (show findT t x = ((j : Int), true) by rw [findT, if_pos Hg.out, if_neg (by omega), h1])
      have H1 := Lib.hid h1
      clear h1
      go_enter Try.func21, Try.ntmps21
      go_wp2_with (first
        | (go_at_call 39; refine (good_any t _ _ hT'.out).mono ?_; rintro e w1 ⟨rfl, ho1⟩)
        | (go_at_call 44; refine (Calls.old ho1 (find_any t x _ _ (hT'.out.old ho1))).mono ?_; rw [H1.out]; rintro e w2 ⟨rfl, ho2⟩))
      go_ret2
      exact ⟨ret_found (by rw [Hs.out]), ho2⟩
  · have hg1 : (goodE t != 0) = true := by simpa using hg
    have Hs := Lib.hid (show findT t x = (0, false) by rw [findT, if_neg hg])
    clear hg
    go_enter Try.func21, Try.ntmps21
    go_wp2_with (go_at_call 39; refine (good_any t _ _ hT'.out).mono ?_; rintro e w1 ⟨rfl, ho1⟩)
    go_ret2
    exact ⟨ret_found Hs.out, ho1⟩
/-! ### the reference's -/
set_option maxHeartbeats 800000 in
theorem rFind_any (t : List (Int × Int)) (x : Int) (v : Value) (w : World) (hT : Prs w v t) :
    Calls Try.prog 22 #[v, .int .i64 x] w fun e w' => e = .returned (.tuple #[.int .i64 (findT t x).1, .bool (findT t x).2]) ∧ Old w w' := by
  have hT' := Lib.hid hT
  clear hT
  by_cases hg : goodE t = 0
  · have hg1 : (goodE t != 0) = false := by simp [hg]
    have Hg := Lib.hid hg
    clear hg
    rcases atFrom_cases t x 0 with ⟨h1, _⟩ | ⟨j, h1, _, h3, _, _⟩
    · have Hs := Lib.hid (show findT t x = (0, false) by rw [findT, if_pos Hg.out, if_pos (by omega)])
      have H1 := Lib.hid h1
      clear h1
      go_enter Try.func22, Try.ntmps22
      go_wp2_with (first
        | (go_at_call 10; refine (rgood_any t _ _ hT'.out).mono ?_; rintro e w1 ⟨rfl, ho1⟩)
        | (go_at_call 48; refine (Calls.old ho1 (rat_any t x _ _ (hT'.out.old ho1))).mono ?_; rw [H1.out]; rintro e w2 ⟨rfl, ho2⟩))
      go_ret2
      exact ⟨ret_found Hs.out, ho2⟩
    · have Hs := Lib.hid (show findT t x = ((j : Int), true) by rw [findT, if_pos Hg.out, if_neg (by omega), h1])
      have H1 := Lib.hid h1
      clear h1
      go_enter Try.func22, Try.ntmps22
      go_wp2_with (first
        | (go_at_call 10; refine (rgood_any t _ _ hT'.out).mono ?_; rintro e w1 ⟨rfl, ho1⟩; have tok := True.intro)
        | (go_at_call 48; clear tok; refine (Calls.old ho1 (rat_any t x _ _ (hT'.out.old ho1))).mono ?_; rw [H1.out]; rintro e w2 ⟨rfl, ho2⟩)
        | (go_at_call 48; refine (Calls.old ho2 (rat_any t x _ _ (hT'.out.old ho2))).mono ?_; rw [H1.out]; rintro e w3 ⟨rfl, ho3⟩))
      go_ret2
      exact ⟨ret_found Hs.out, ho3⟩
  · have hg1 : (goodE t != 0) = true := by simpa using hg
    have Hs := Lib.hid (show findT t x = (0, false) by rw [findT, if_neg hg])
    clear hg
    go_enter Try.func22, Try.ntmps22
    go_wp2_with (go_at_call 10; refine (rgood_any t _ _ hT'.out).mono ?_; rintro e w1 ⟨rfl, ho1⟩)
    go_ret2
    exact ⟨ret_found Hs.out, ho1⟩
set_option maxHeartbeats 800000 in
theorem rParent_any (t : List (Int × Int)) (i : Int) (v : Value) (w : World) (hT : Prs w v t) :
    Calls Try.prog 23 #[v, .int .i64 i] w fun e w' => e = .returned (.tuple #[.int .i64 (parentT t i).1, .int .i64 (parentT t i).2]) ∧ Old w w' := by
  obtain ⟨a, cap, rfl, hn1, hn2⟩ := hT.form
  have hT' := Lib.hid hT
  clear hT
  by_cases hg : goodE t = 0
  · have hg1 : (goodE t != 0) = false := by simp [hg]
    have Hg := Lib.hid hg
    have HG := Lib.hid ((goodE_zero t).1 hg)
    clear hg
    by_cases hr : i < 0 ∨ (t.length : Int) ≤ i
    · have Hs := Lib.hid (show parentT t i = (0, 1) by rw [parentT_bad (by rw [atE_out Hg.out hr]; decide), atE_out Hg.out hr])
      go_enter Try.func23, Try.ntmps23
      go_wp2_with (go_at_call 10; refine (rgood_any t _ _ hT'.out).mono ?_; rintro e w1 ⟨rfl, ho1⟩)
      all_goals go_ret2
      all_goals exact ⟨ret_pair Hs.out, ho1⟩
    · obtain ⟨j, rfl⟩ := Int.eq_ofNat_of_zero_le (a := i) (by omega)
      have hj : j < t.length := by omega
      have Hs := Lib.hid (show parentT t (j : Int) = (par t j, 0) from parentT_in (atE_in Hg.out (by omega) (by omega)))
      have hlev := HG.out.lev j hj
      go_enter Try.func23, Try.ntmps23
      go_wp2_with (first
        | (go_at_call 10; refine (rgood_any t _ _ hT'.out).mono ?_; rintro e w1 ⟨rfl, ho1⟩)
        | (go_at_call 49; refine (Calls.old ho1 (above_any t _ j _ _ (hT'.out.old ho1) hj rfl hlev.1 hlev.2.1)).mono ?_; rintro e w2 ⟨rfl, ho2⟩))
      go_ret2
      exact ⟨ret_pair Hs.out, ho2⟩
  · have hg1 : (goodE t != 0) = true := by simpa using hg
    have Hs := Lib.hid (show parentT t i = (0, goodE t) by rw [parentT_bad (by rw [atE_bad hg]; exact hg), atE_bad hg])
    clear hg
    go_enter Try.func23, Try.ntmps23
    go_wp2_with (go_at_call 10; refine (rgood_any t _ _ hT'.out).mono ?_; rintro e w1 ⟨rfl, ho1⟩)
    go_ret2
    exact ⟨ret_pair Hs.out, ho1⟩
set_option maxHeartbeats 800000 in
theorem below_ref (t : List (Int × Int)) (k i : Nat) (v : Value) (w : World) (hT : Prs w v t) (hG : Good t) (hk : k < t.length) :
    Calls Try.prog 50 #[v, .int .i64 k, .int .i64 i] w fun e w' => e = .returned (.bool (ancB t i k)) ∧ Old w w' := by
  obtain ⟨a, cap, rfl, hn1, hn2⟩ := hT.form
  have hT' := Lib.hid hT
  have HG := Lib.hid hG
  have hlen := hG.len
  clear hT hG
  go_enter Try.func50, Try.ntmps50
  go_wp2_with fail
  go_loopw [1] (fun x wr => ((∃ j : Nat, j < t.length ∧ x = .int .i64 j ∧ ancB t i j = ancB t i k) ∨ (x = .int .i64 (-1) ∧ ancB t i k = false)) ∧ Old w wr) (fun x _ => (intOf x + 1).toNat)
  case atStart => exact ⟨.inl ⟨k, hk, rfl, rfl⟩, Old.refl _⟩
  case round =>
    obtain ⟨⟨j, hj, rfl, hat⟩ | ⟨rfl, hat⟩, hold⟩ := hrel
    · have hlev := HG.out.lev j hj
      have hpl := par_lt t j
      have Hat := Lib.hid hat
      clear hat
      by_cases hp : par t j = (i : Int)
      · have Ha := Lib.hid (ancB_hit hp)
        have Hp := Lib.hid hp
        clear hp hpl
        go_wp2_with (go_at_call 49; refine (Calls.old hold (above_any t _ j _ _ (hT'.out.old hold) hj rfl hlev.1 hlev.2.1)).mono ?_; rw [Hp.out]; rintro e w2 ⟨rfl, ho2⟩)
        go_ret
        exact ⟨ret_bool (by rw [← Hat.out, Ha.out]), ho2⟩
      · by_cases h0 : par t j < 0
        · have hm : par t j = -1 := by omega
          have Ha := Lib.hid (ancB_top (i := i) h0)
          have Hm := Lib.hid hm
          clear hp hpl h0 hm
          go_wp2_with (go_at_call 49; refine (Calls.old hold (above_any t _ j _ _ (hT'.out.old hold) hj rfl hlev.1 hlev.2.1)).mono ?_; rw [Hm.out]; rintro e w2 ⟨rfl, ho2⟩)
          go_roundw
          case rel => exact ⟨.inr ⟨rfl, by rw [← Hat.out, Ha.out]⟩, ho2⟩
          case measure => simp [intOf]
        · obtain ⟨m, hm⟩ := Int.eq_ofNat_of_zero_le (a := par t j) (by omega)
          have hmj : m < j := by omega
          have hne : m ≠ i := by omega
          have Ha := Lib.hid (ancB_up hm hne)
          have Hm := Lib.hid hm
          have hmi : ((m : Int) == (i : Int)) = false := by simp; omega
          clear hp hpl h0 hm
          go_wp2_with (go_at_call 49; refine (Calls.old hold (above_any t _ j _ _ (hT'.out.old hold) hj rfl hlev.1 hlev.2.1)).mono ?_; rw [Hm.out]; rintro e w2 ⟨rfl, ho2⟩)
          go_roundw
          case rel => exact ⟨.inl ⟨m, by omega, rfl, by rw [← Hat.out, Ha.out]⟩, ho2⟩
          case measure => simp [intOf]; omega
    · have Hat := Lib.hid hat
      clear hat
      go_wp2_with fail
      go_ret
      exact ⟨ret_bool Hat.out.symm, hold⟩
end Go.Proofs.Ytigpjfebnppejaa
