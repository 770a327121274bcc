/-
  WALKS C: good, at, Parent, step, Next, Prev, slices.Reverse on a slice of the call's own, Path, Up.
-/
import Derived.Test.YtigpjfebnppejaaTocWalksB
import Derived.RegionTactic
import Derived.BigRegion
namespace Go.Proofs.Ytigpjfebnppejaa
open Go.RowKit Go.Maps
attribute [local go_sem] Old.refl Old.alloc Old.drew Old.setCell OldW.old

set_option maxHeartbeats 400000 in
theorem good_any (t : List (Int × Int)) (v : Value) (w : World) (hT : Prs w v t) :
    Calls Try.prog 39 #[v] w fun e w' => e = .returned (.int .i64 (goodE t)) ∧ Old w w' := by
  have hT' := Lib.hid hT
  clear hT
  go_enter Try.func39, Try.ntmps39
  go_wp2_with (go_at_call 19; refine (check_any t 1000 v _ hT'.out (by omega)).mono ?_; rintro e w1 ⟨rfl, ho1⟩)
  go_ret
  exact ⟨rfl, ho1⟩

set_option maxHeartbeats 400000 in
theorem at_any (t : List (Int × Int)) (i : Int) (v : Value) (w : World) (hT : Prs w v t) :
    Calls Try.prog 40 #[v, .int .i64 i] w fun e w' => e = .returned (.int .i64 (atE t i)) ∧ Old w w' := by
  obtain ⟨a, cap, rfl, hn1, hn2⟩ := hT.form
  have hn : t.length ≤ 9223372036854775807 := by omega
  have hT' := Lib.hid hT
  clear hT
  by_cases hg : goodE t = 0
  · have hg1 : (goodE t != 0) = false := by simp [hg]
    have Hg := Lib.hid hg
    clear hg
    go_enter Try.func40, Try.ntmps40
    go_wp2_with (go_at_call 39; refine (good_any t _ _ hT'.out).mono ?_; rintro e w1 ⟨rfl, ho1⟩)
    · go_ret
      exact ⟨ret_i64 (atE_out Hg.out (by omega)).symm, ho1⟩
    · go_ret
      exact ⟨ret_i64 (atE_in Hg.out (by omega) (by omega)).symm, ho1⟩
    · go_ret
      exact ⟨ret_i64 (atE_out Hg.out (by omega)).symm, ho1⟩
  · have hg1 : (goodE t != 0) = true := by simpa using hg
    go_enter Try.func40, Try.ntmps40
    go_wp2_with (go_at_call 39; refine (good_any t _ _ hT'.out).mono ?_; rintro e w1 ⟨rfl, ho1⟩)
    go_ret
    exact ⟨ret_i64 (atE_bad hg).symm, ho1⟩

/-- the parent's place, in good contents -/
theorem parent_any (t : List (Int × Int)) (g : Good t) (i : Int) (i' : Nat) (v : Value) (w : World) (hT : Prs w v t) (hi : i' < t.length) (hi' : i = (i' : Int)) :
    Calls Try.prog 42 #[v, .int .i64 i] w fun e w' => e = .returned (.int .i64 (par t i')) ∧ Old w w' := by
  have hl := g.lev i' hi
  by_cases h1 : p1 t i' = 1
  · rw [(g.par_none i' hi).2 h1]
    exact parent_root t i i' v w hT hi hi' h1
  · exact parent_deep t i i' v w hT hi hi' (by omega) (by omega)

set_option maxHeartbeats 400000 in
theorem Parent_bad (t : List (Int × Int)) (i : Int) (v : Value) (w : World) (hT : Prs w v t) (hE : (atE t i != 0) = true) :
    Calls Try.prog 13 #[v, .int .i64 i] w fun e w' => e = .returned (.tuple #[.int .i64 0, .int .i64 (atE t i)]) ∧ Old w w' := by
  have hT' := Lib.hid hT
  clear hT
  go_enter Try.func13, Try.ntmps13
  go_wp2_with (go_at_call 40; refine (at_any t i v _ hT'.out).mono ?_; rintro e w1 ⟨rfl, ho1⟩)
  go_ret2
  exact ⟨rfl, ho1⟩
set_option maxHeartbeats 400000 in
theorem Parent_in (t : List (Int × Int)) (i : Nat) (v : Value) (w : World) (hT : Prs w v t) (hE : atE t i = 0) :
    Calls Try.prog 13 #[v, .int .i64 i] w fun e w' => e = .returned (.tuple #[.int .i64 (par t i), .int .i64 0]) ∧ Old w w' := by
  have hT' := Lib.hid hT
  clear hT
  have hz := atE_zero hE
  have hg := Lib.hid ((goodE_zero t).1 hz.1)
  have hi : i < t.length := by omega
  have hE' : (atE t i != 0) = false := by simp [hE]
  clear hE hz
  go_enter Try.func13, Try.ntmps13
  go_wp2_with (first
    | (go_at_call 40; refine (at_any t i v _ hT'.out).mono ?_; rintro e w1 ⟨rfl, ho1⟩)
    | (go_at_call 42; refine (Calls.old ho1 (parent_any t hg.out i i v _ (hT'.out.old ho1) hi rfl)).mono ?_; rintro e w2 ⟨rfl, ho2⟩))
  go_ret2
  exact ⟨rfl, ho2⟩

theorem ret_step {t : List (Int × Int)} {x k a b : Int} (h : stepT t x k = (a, b)) : Ending.returned (.tuple #[.int .i64 a, .int .i64 b]) = .returned (.tuple #[.int .i64 (stepT t x k).1, .int .i64 (stepT t x k).2]) := by rw [h]
set_option maxHeartbeats 400000 in
theorem step_any (t : List (Int × Int)) (x k : Int) (v : Value) (w : World) (hT : Prs w v t) (hk : -1 ≤ k) (hk' : k ≤ 1) :
    Calls Try.prog 43 #[v, .int .i64 x, .int .i64 k] w fun e w' => e = .returned (.tuple #[.int .i64 (stepT t x k).1, .int .i64 (stepT t x k).2]) ∧ Old w w' := by
  have hT' := Lib.hid hT
  obtain ⟨a, cap, b, off, rfl, hn1, hn2, ha, ht0, ht1⟩ := hT
  have hn : t.length ≤ 9223372036854775807 := by omega
  by_cases hg : goodE t = 0
  · have hg1 : (goodE t != 0) = false := by simp [hg]
    have Hg := Lib.hid hg
    have Hl := (((goodE_zero t).1 hg).len)
    clear hg
    rcases atFrom_cases t x 0 with ⟨h1, _⟩ | ⟨j, h1, _, h3, _, _⟩
    · have Hs := Lib.hid (show stepT t x k = (0, 3) by rw [stepT, if_pos Hg.out, if_pos (by omega)])
      have H1 := Lib.hid h1
      clear h1
      go_enter Try.func43, Try.ntmps43
      go_wp2_with (first
        | (go_at_call 39; refine (good_any t _ _ hT'.out).mono ?_; rintro e w1 ⟨rfl, ho1⟩)
        | (go_at_call 44; refine (Calls.old ho1 (find_any t x _ _ (hT'.out.old ho1))).mono ?_; rw [H1.out]; rintro e w2 ⟨rfl, ho2⟩))
      go_ret2
      exact ⟨ret_step Hs.out, ho2⟩
    · have H1 := Lib.hid h1
      obtain rfl := ha (by omega)
      by_cases hin : 0 ≤ (j : Int) + k ∧ (j : Int) + k < t.length
      · obtain ⟨hin0, hin1⟩ := hin
        have Hs := Lib.hid (show stepT t x k = (p0 t ((j : Int) + k).toNat, 0) by rw [stepT, if_pos Hg.out, if_neg (by omega), h1])
        clear h1
        go_enter Try.func43, Try.ntmps43
        go_wp2_with (first
          | (go_at_call 39; refine (good_any t _ _ hT'.out).mono ?_; rintro e w1 ⟨rfl, ho1⟩)
          | (go_at_call 44; refine (Calls.old ho1 (find_any t x _ _ (hT'.out.old ho1))).mono ?_; rw [H1.out]; rintro e w2 ⟨rfl, ho2⟩))
        go_ret2
        exact ⟨ret_step Hs.out, ho2⟩
      · have Hs := Lib.hid (show stepT t x k = (0, 3) by rw [stepT, if_pos Hg.out, if_pos (by omega)])
        clear h1
        go_enter Try.func43, Try.ntmps43
        go_wp2_with (first
          | (go_at_call 39; refine (good_any t _ _ hT'.out).mono ?_; rintro e w1 ⟨rfl, ho1⟩)
          | (go_at_call 44; refine (Calls.old ho1 (find_any t x _ _ (hT'.out.old ho1))).mono ?_; rw [H1.out]; rintro e w2 ⟨rfl, ho2⟩))
        all_goals go_ret2
        all_goals exact ⟨ret_step Hs.out, ho2⟩
  · have hg1 : (goodE t != 0) = true := by simpa using hg
    go_enter Try.func43, Try.ntmps43
    go_wp2_with (go_at_call 39; refine (good_any t _ _ hT'.out).mono ?_; rintro e w1 ⟨rfl, ho1⟩)
    go_ret2
    exact ⟨ret_step (by rw [stepT, if_neg hg]), ho1⟩

theorem Next_any (t : List (Int × Int)) (x : Int) (v : Value) (w : World) (hT : Prs w v t) :
    Calls Try.prog 15 #[v, .int .i64 x] w fun e w' => e = .returned (.tuple #[.int .i64 (stepT t x 1).1, .int .i64 (stepT t x 1).2]) ∧ Old w w' := by
  have hT' := Lib.hid hT
  clear hT
  go_enter Try.func15, Try.ntmps15
  go_wp2_with (go_at_call 43; refine (step_any t x 1 v _ hT'.out (by decide) (by decide)).mono ?_; rintro e w1 ⟨rfl, ho1⟩)
  go_ret2
  exact ⟨rfl, ho1⟩
theorem Prev_any (t : List (Int × Int)) (x : Int) (v : Value) (w : World) (hT : Prs w v t) :
    Calls Try.prog 16 #[v, .int .i64 x] w fun e w' => e = .returned (.tuple #[.int .i64 (stepT t x (-1)).1, .int .i64 (stepT t x (-1)).2]) ∧ Old w w' := by
  have hT' := Lib.hid hT
  clear hT
  go_enter Try.func16, Try.ntmps16
  go_wp2_with (go_at_call 43; refine (step_any t x (-1) v _ hT'.out (by decide) (by decide)).mono ?_; rintro e w1 ⟨rfl, ho1⟩)
  go_ret2
  exact ⟨rfl, ho1⟩

set_option maxHeartbeats 800000 in
theorem reverse_any (w0 w : World) (v : Value) (l : List Int) (hown : OwnI 3 w0 w v l) (hold : Old w0 w) :
    Calls Try.prog 45 #[v] w fun e w' => e = .returned (.tuple #[]) ∧ OwnI 3 w0 w' v l.reverse ∧ Old w0 w' := by
  obtain ⟨a, cap, rfl, hn1, hn2⟩ := ownsRow_form hown
  have hn : l.length ≤ 9223372036854775807 := by omega
  go_enter Try.func45, Try.ntmps45
  go_wp2_with fail
  go_loopw [2, 3] (fun i j wr => ∃ (k : Nat) (m : List Int), i = .int .i64 k ∧ j = .int .i64 ((l.length : Int) - 1 - k) ∧ k + k ≤ l.length ∧ HalfRev l m k ∧ OwnI 3 w0 wr (.slice a l.length cap) m ∧ Old w0 wr) (fun i _ _ => l.length - (intOf i).toNat)
  case atStart => exact ⟨0, l, rfl, by go_num, by omega, HalfRev.start l, hown, hold⟩
  case round =>
    obtain ⟨k, m, rfl, rfl, hk, hrev, hown', hold'⟩ := hrel
    have hml := hrev.1
    by_cases hlt : k + k + 1 < l.length
    · obtain ⟨g, rfl, hg1, hg2⟩ := hown'.block (by omega)
      have hc0 := hown'.cell (k := k) (by omega)
      have hc1 := hown'.cell (k := l.length - 1 - k) (by omega)
      have hf0 := hown'.frozen k
      have hf1 := hown'.frozen (l.length - 1 - k)
      have hne : ¬ k = l.length - 1 - k := by omega
      have hne' : ¬ l.length - 1 - k = k := by omega
      go_wp2_with fail
      go_region
      go_wp2_with fail
      go_roundw
      case rel => exact ⟨k + 1, _, by go_num, by go_num, by omega, hrev.step hlt, ((hown'.stored k _).stored (l.length - 1 - k) _).drew, ((hold'.setCell hg1 _).setCell hg1 _).drew⟩
      case measure => simp [intOf]; omega
    · go_wp2_with fail
      go_end0
      rw [← hrev.done (by omega)]
      exact ⟨rfl, hown', hold'⟩

theorem ret_path {w' : World} {t : List (Int × Int)} {x : Int} {l : List Int} {n : Int} {v : Value} (h : pathT t x = (l, n)) (hv : Ints w' v l) : RetIntsE w' (pathT t x).1 (pathT t x).2 (.returned (.tuple #[v, .int .i64 n])) := by
  rw [h]; exact ⟨v, rfl, hv⟩
set_option maxHeartbeats 800000 in
theorem Path_any (t : List (Int × Int)) (x : Int) (v : Value) (w : World) (hT : Prs w v t) :
    Calls Try.prog 17 #[v, .int .i64 x] w fun e w' => RetIntsE w' (pathT t x).1 (pathT t x).2 e ∧ Old w w' := by
  have hT' := Lib.hid hT
  obtain ⟨a, cap, b, off, rfl, hn1, hn2, ha, ht0, ht1⟩ := hT
  have hn : t.length ≤ 9223372036854775807 := by omega
  by_cases hg : goodE t = 0
  · have hg1 : (goodE t != 0) = false := by simp [hg]
    have Hg := Lib.hid hg
    have Hgood := Lib.hid ((goodE_zero t).1 hg)
    have Hl := Hgood.out.len
    clear hg
    rcases atFrom_cases t x 0 with ⟨h1, _⟩ | ⟨j, h1, _, h3, _, _⟩
    · have Hs := Lib.hid (show pathT t x = ([], 3) by rw [pathT, if_pos Hg.out, if_pos (by omega)])
      have H1 := Lib.hid h1
      clear h1
      go_enter Try.func17, Try.ntmps17
      go_wp2_with (first
        | (go_at_call 39; refine (good_any t _ _ hT'.out).mono ?_; rintro e w1 ⟨rfl, ho1⟩)
        | (go_at_call 44; refine (Calls.old ho1 (find_any t x _ _ (hT'.out.old ho1))).mono ?_; rw [H1.out]; rintro e w2 ⟨rfl, ho2⟩))
      go_ret2
      exact ⟨ret_path Hs.out (Ints.nil _), ho2⟩
    · have H1 := Lib.hid h1
      have Hs := Lib.hid (show pathT t x = ((upL t j).reverse, 0) by rw [pathT, if_pos Hg.out, if_neg (by omega), h1, Int.toNat_natCast])
      obtain rfl := ha (by omega)
      clear h1
      go_enter Try.func17, Try.ntmps17
      go_wp2_with (first
        | (go_at_call 39; refine (good_any t _ _ hT'.out).mono ?_; rintro e w1 ⟨rfl, ho1⟩)
        | (go_at_call 44; refine (Calls.old ho1 (find_any t x _ _ (hT'.out.old ho1))).mono ?_; rw [H1.out]; rintro e w2 ⟨rfl, ho2⟩))
      go_loopw [7, 8] (fun i l wr => ∃ (k : Int) (u : List Int), -1 ≤ k ∧ k ≤ j ∧ i = .int .i64 k ∧ u ++ upR t k = upL t j ∧ u.length ≤ t.length ∧ (u.length : Int) + k ≤ j ∧ OwnI 3 w wr l u ∧ Old w wr) (fun i _ _ => (intOf i + 1).toNat)
      case atStart => exact ⟨j, [], by omega, by omega, rfl, by rw [upR, if_neg (by omega), Int.toNat_natCast]; rfl, by simp, by simp, OwnI.nil _ _ _, ho2⟩
      case round =>
        obtain ⟨k, u, hk0, hk1, rfl, hu, hul, huk, hown, hold⟩ := hrel
        have Hu := Lib.hid hu
        clear hu
        by_cases hlt : 0 ≤ k
        · obtain ⟨m, rfl⟩ := Int.eq_ofNat_of_zero_le hlt
          have hm : m < t.length := by omega
          have hpl := par_lt t m
          have Hstep := Lib.hid (upR_step t m)
          go_wp2_with (first
            | (at_builtin; go_loud (refine wpList_append_ints (w0 := w) rfl _ _ 25 rfl 3 Try.underlying25 infoInt _ u [p0 t m] rfl (hown.alloc _) _ rfl (Ints.one wr _ (p0 t m)) (by simp; omega) (hold.alloc _) ?_); intro v1 w3 hown1 ho3 hg3)
            | (go_at_call 42; refine (parent_any t Hgood.out m m _ _ (hT'.out.old ho3) hm rfl).mono ?_; rintro e w4 ⟨rfl, ho4⟩))
          go_roundw
          case rel => exact ⟨par t m, u ++ [p0 t m], by omega, by omega, rfl, by rw [← Hu.out, Hstep.out, List.append_assoc]; rfl, by simp; omega, by simp; omega, hown1.old ho4, ho3.trans ho4⟩
          case measure => simp [intOf]; omega
        · obtain rfl : k = -1 := by omega
          go_wp2_with (go_at_call 45; refine (reverse_any w _ _ u hown hold).mono ?_; rintro e w3 ⟨rfl, hown1, ho3⟩)
          go_ret2
          exact ⟨ret_path Hs.out (by rw [← Hu.out]; simpa [upR] using hown1.ints), ho3⟩
  · have hg1 : (goodE t != 0) = true := by simpa using hg
    go_enter Try.func17, Try.ntmps17
    go_wp2_with (go_at_call 39; refine (good_any t _ _ hT'.out).mono ?_; rintro e w1 ⟨rfl, ho1⟩)
    go_ret2
    exact ⟨ret_path (by rw [pathT, if_neg hg]) (Ints.nil _), ho1⟩
end Go.Proofs.Ytigpjfebnppejaa
