/-
  WALKS I: the reference's Next, Prev, Up, Path.
-/
import Derived.Test.YtigpjfebnppejaaTocWalksF
import Derived.Test.YtigpjfebnppejaaTocPlain3
namespace Go.Proofs.Ytigpjfebnppejaa
open Go.RowKit Go.Maps
attribute [local go_sem] Old.refl Old.alloc Old.drew Old.setCell OldW.old

/-! ### Up, said by the parent -/
theorem upT_bad {t : List (Int × Int)} {x : Int} (h : goodE t ≠ 0) : upT t x = (0, goodE t) := by
  have e : pathT t x = ([], goodE t) := by rw [pathT, if_neg h]
  rw [upT, e, if_neg h]
theorem upT_none {t : List (Int × Int)} {x : Int} (h : goodE t = 0) (h' : atFrom t x 0 < 0) : upT t x = (0, 3) := by
  have e : pathT t x = ([], 3) := by rw [pathT, if_pos h, if_pos h']
  rw [upT, e, if_neg (by decide)]
theorem upT_at {t : List (Int × Int)} {x : Int} {j : Nat} (h : goodE t = 0) (h' : atFrom t x 0 = (j : Int)) : pathT t x = ((upL t j).reverse, 0) := by
  rw [pathT, if_pos h, if_neg (by omega), h', Int.toNat_natCast]
theorem upT_root {t : List (Int × Int)} {x : Int} {j : Nat} (h : goodE t = 0) (h' : atFrom t x 0 = (j : Int)) (hp : par t j < 0) : upT t x = (0, 3) := by
  rw [upT, upT_at h h', if_pos rfl, upL_root hp, if_pos (by show ((1 : Nat) : Int) < 2; decide)]
theorem upT_deep {t : List (Int × Int)} {x : Int} {j m : Nat} (h : goodE t = 0) (h' : atFrom t x 0 = (j : Int)) (hp : par t j = (m : Int)) : upT t x = (p0 t m, 0) := by
  have hpos := upL_pos t m
  have hl : (upL t j).length = (upL t m).length + 1 := by rw [upL_deep hp]; rfl
  rw [upT, upT_at h h', if_pos rfl]
  dsimp only
  rw [if_neg (by rw [List.length_reverse]; omega), List.length_reverse, ix_reverse (by omega), show (upL t j).length - 1 - ((upL t j).length - 2) = 1 from by omega, upL_deep hp]
  exact congrArg (·, (0 : Int)) (upL_head t m)

set_option maxHeartbeats 400000 in
theorem beside_any (t : List (Int × Int)) (x k : Int) (v : Value) (w : World) (hT : Prs w v t) (hk : -1 ≤ k) (hk' : k ≤ 1) :
    Calls Try.prog 51 #[v, .int .i64 x, .int .i64 k] w fun e w' => e = .returned (.tuple #[.int .i64 (stepT t x k).1, .int .i64 (stepT t x k).2]) ∧ Old w w' := by
  have hT' := Lib.hid hT
  obtain ⟨a, cap, b, off, rfl, hn1, hn2, ha, ht0, ht1⟩ := hT
  have hn : t.length ≤ 9223372036854775807 := by omega
  by_cases hg : goodE t = 0
  · have hg1 : (goodE t != 0) = false := by simp [hg]
    have Hg := Lib.hid hg
    have Hl := (((goodE_zero t).1 hg).len)
    clear hg
    rcases atFrom_cases t x 0 with ⟨h1, _⟩ | ⟨j, h1, _, h3, _, _⟩
    · have Hs := Lib.hid (show stepT t x k = (0, 3) by rw [stepT, if_pos Hg.out, if_pos (by omega)])
      have H1 := Lib.hid h1
      clear h1
      go_enter Try.func51, Try.ntmps51
      go_wp2_with (first
        | (go_at_call 10; refine (rgood_any t _ _ hT'.out).mono ?_; rintro e w1 ⟨rfl, ho1⟩)
        | (go_at_call 48; refine (Calls.old ho1 (rat_any t x _ _ (hT'.out.old ho1))).mono ?_; rw [H1.out]; rintro e w2 ⟨rfl, ho2⟩))
      go_ret2
      exact ⟨ret_step Hs.out, ho2⟩
    · have H1 := Lib.hid h1
      obtain rfl := ha (by omega)
      by_cases hin : 0 ≤ (j : Int) + k ∧ (j : Int) + k < t.length
      · obtain ⟨hin0, hin1⟩ := hin
        have Hs := Lib.hid (show stepT t x k = (p0 t ((j : Int) + k).toNat, 0) by rw [stepT, if_pos Hg.out, if_neg (by omega), h1])
        clear h1
        go_enter Try.func51, Try.ntmps51
        go_wp2_with (first
          | (go_at_call 10; refine (rgood_any t _ _ hT'.out).mono ?_; rintro e w1 ⟨rfl, ho1⟩)
          | (go_at_call 48; refine (Calls.old ho1 (rat_any t x _ _ (hT'.out.old ho1))).mono ?_; rw [H1.out]; rintro e w2 ⟨rfl, ho2⟩))
        go_ret2
        exact ⟨ret_step Hs.out, ho2⟩
      · have Hs := Lib.hid (show stepT t x k = (0, 3) by rw [stepT, if_pos Hg.out, if_pos (by omega)])
        clear h1
        go_enter Try.func51, Try.ntmps51
        go_wp2_with (first
          | (go_at_call 10; refine (rgood_any t _ _ hT'.out).mono ?_; rintro e w1 ⟨rfl, ho1⟩)
          | (go_at_call 48; refine (Calls.old ho1 (rat_any t x _ _ (hT'.out.old ho1))).mono ?_; rw [H1.out]; rintro e w2 ⟨rfl, ho2⟩))
        all_goals go_ret2
        all_goals exact ⟨ret_step Hs.out, ho2⟩
  · have hg1 : (goodE t != 0) = true := by simpa using hg
    go_enter Try.func51, Try.ntmps51
    go_wp2_with (go_at_call 10; refine (rgood_any t _ _ hT'.out).mono ?_; rintro e w1 ⟨rfl, ho1⟩)
    go_ret2
    exact ⟨ret_step (by rw [stepT, if_neg hg]), ho1⟩

theorem rNext_any (t : List (Int × Int)) (x : Int) (v : Value) (w : World) (hT : Prs w v t) :
    Calls Try.prog 29 #[v, .int .i64 x] w fun e w' => e = .returned (.tuple #[.int .i64 (stepT t x 1).1, .int .i64 (stepT t x 1).2]) ∧ Old w w' := by
  have hT' := Lib.hid hT
  clear hT
  go_enter Try.func29, Try.ntmps29
  go_wp2_with (go_at_call 51; refine (beside_any t x 1 v _ hT'.out (by decide) (by decide)).mono ?_; rintro e w1 ⟨rfl, ho1⟩)
  go_ret2
  exact ⟨rfl, ho1⟩
theorem rPrev_any (t : List (Int × Int)) (x : Int) (v : Value) (w : World) (hT : Prs w v t) :
    Calls Try.prog 30 #[v, .int .i64 x] w fun e w' => e = .returned (.tuple #[.int .i64 (stepT t x (-1)).1, .int .i64 (stepT t x (-1)).2]) ∧ Old w w' := by
  have hT' := Lib.hid hT
  clear hT
  go_enter Try.func30, Try.ntmps30
  go_wp2_with (go_at_call 51; refine (beside_any t x (-1) v _ hT'.out (by decide) (by decide)).mono ?_; rintro e w1 ⟨rfl, ho1⟩)
  go_ret2
  exact ⟨rfl, ho1⟩

set_option maxHeartbeats 800000 in
theorem rUp_any (t : List (Int × Int)) (x : Int) (v : Value) (w : World) (hT : Prs w v t) :
    Calls Try.prog 31 #[v, .int .i64 x] w fun e w' => e = .returned (.tuple #[.int .i64 (upT t x).1, .int .i64 (upT t x).2]) ∧ Old w w' := by
  have hT' := Lib.hid hT
  obtain ⟨a, cap, b, off, rfl, hn1, hn2, ha, ht0, ht1⟩ := hT
  have hn : t.length ≤ 9223372036854775807 := by omega
  by_cases hg : goodE t = 0
  · have hg1 : (goodE t != 0) = false := by simp [hg]
    have Hg := Lib.hid hg
    have HG := Lib.hid ((goodE_zero t).1 hg)
    have Hl := HG.out.len
    clear hg
    rcases atFrom_cases t x 0 with ⟨h1, _⟩ | ⟨j, h1, _, h3, _, _⟩
    · have Hs := Lib.hid (upT_none (x := x) Hg.out (by omega))
      have H1 := Lib.hid h1
      clear h1
      go_enter Try.func31, Try.ntmps31
      go_wp2_with (first
        | (go_at_call 10; refine (rgood_any t _ _ hT'.out).mono ?_; rintro e w1 ⟨rfl, ho1⟩)
        | (go_at_call 48; refine (Calls.old ho1 (rat_any t x _ _ (hT'.out.old ho1))).mono ?_; rw [H1.out]; rintro e w2 ⟨rfl, ho2⟩))
      go_ret2
      exact ⟨ret_up Hs.out, ho2⟩
    · have H1 := Lib.hid h1
      obtain rfl := ha (by omega)
      have hlev := HG.out.lev j h3
      rcases par_cases t j with hp | ⟨m, hp, hmj⟩
      · have Hs := Lib.hid (upT_root Hg.out H1.out (by omega))
        have Hp := Lib.hid hp
        clear h1 hp
        go_enter Try.func31, Try.ntmps31
        go_wp2_with (first
          | (go_at_call 10; refine (rgood_any t _ _ hT'.out).mono ?_; rintro e w1 ⟨rfl, ho1⟩)
          | (go_at_call 48; refine (Calls.old ho1 (rat_any t x _ _ (hT'.out.old ho1))).mono ?_; rw [H1.out]; rintro e w2 ⟨rfl, ho2⟩)
          | (go_at_call 49; refine (Calls.old ho2 (above_any t _ j _ _ (hT'.out.old ho2) h3 rfl hlev.1 hlev.2.1)).mono ?_; rw [Hp.out]; rintro e w3 ⟨rfl, ho3⟩))
        go_ret2
        exact ⟨ret_up Hs.out, ho3⟩
      · have Hs := Lib.hid (upT_deep Hg.out H1.out hp)
        have Hp := Lib.hid hp
        have hml : m < t.length := by omega
        have hm0 := ht0 m hml
        clear h1 hp
        go_enter Try.func31, Try.ntmps31
        go_wp2_with (first
          | (go_at_call 10; refine (rgood_any t _ _ hT'.out).mono ?_; rintro e w1 ⟨rfl, ho1⟩)
          | (go_at_call 48; refine (Calls.old ho1 (rat_any t x _ _ (hT'.out.old ho1))).mono ?_; rw [H1.out]; rintro e w2 ⟨rfl, ho2⟩; have tok := True.intro)
          | (go_at_call 49; clear tok; refine (Calls.old ho2 (above_any t _ j _ _ (hT'.out.old ho2) h3 rfl hlev.1 hlev.2.1)).mono ?_; rw [Hp.out]; rintro e w3 ⟨rfl, ho3⟩)
          | (go_at_call 49; refine (Calls.old ho3 (above_any t _ j _ _ (hT'.out.old ho3) h3 rfl hlev.1 hlev.2.1)).mono ?_; rw [Hp.out]; rintro e w4 ⟨rfl, ho4⟩))
        go_ret2
        exact ⟨ret_up Hs.out, ho4⟩
  · have hg1 : (goodE t != 0) = true := by simpa using hg
    have Hs := Lib.hid (upT_bad (x := x) hg)
    clear hg
    go_enter Try.func31, Try.ntmps31
    go_wp2_with (go_at_call 10; refine (rgood_any t _ _ hT'.out).mono ?_; rintro e w1 ⟨rfl, ho1⟩)
    go_ret2
    exact ⟨ret_up Hs.out, ho1⟩

set_option maxHeartbeats 800000 in
theorem rPath_any (t : List (Int × Int)) (x : Int) (v : Value) (w : World) (hT : Prs w v t) :
    Calls Try.prog 32 #[v, .int .i64 x] w fun e w' => RetIntsE w' (pathT t x).1 (pathT t x).2 e ∧ Old w w' := by
  have hT' := Lib.hid hT
  obtain ⟨a, cap, b, off, rfl, hn1, hn2, ha, ht0, ht1⟩ := hT
  have hn : t.length ≤ 9223372036854775807 := by omega
  by_cases hg : goodE t = 0
  · have hg1 : (goodE t != 0) = false := by simp [hg]
    have Hg := Lib.hid hg
    have HG := Lib.hid ((goodE_zero t).1 hg)
    have Hl := HG.out.len
    clear hg
    rcases atFrom_cases t x 0 with ⟨h1, _⟩ | ⟨j, h1, _, h3, _, _⟩
    · have Hs := Lib.hid (show pathT t x = ([], 3) by rw [pathT, if_pos Hg.out, if_pos (by omega)])
      have H1 := Lib.hid h1
      clear h1
      go_enter Try.func32, Try.ntmps32
      go_wp2_with (first
        | (go_at_call 10; refine (rgood_any t _ _ hT'.out).mono ?_; rintro e w1 ⟨rfl, ho1⟩)
        | (go_at_call 48; refine (Calls.old ho1 (rat_any t x _ _ (hT'.out.old ho1))).mono ?_; rw [H1.out]; rintro e w2 ⟨rfl, ho2⟩))
      go_ret2
      exact ⟨ret_path Hs.out (Ints.nil _), ho2⟩
    · have H1 := Lib.hid h1
      have Hs := Lib.hid (upT_at Hg.out h1)
      obtain rfl := ha (by omega)
      clear h1
      go_enter Try.func32, Try.ntmps32
      go_wp2_with (first
        | (go_at_call 10; refine (rgood_any t _ _ hT'.out).mono ?_; rintro e w1 ⟨rfl, ho1⟩)
        | (go_at_call 48; refine (Calls.old ho1 (rat_any t x _ _ (hT'.out.old ho1))).mono ?_; rw [H1.out]; rintro e w2 ⟨rfl, ho2⟩))
      go_loopw [7, 8] (fun i l wr => ∃ (k : Int) (u : List Int), -1 ≤ k ∧ k ≤ j ∧ i = .int .i64 k ∧ (upR t k).reverse ++ u = (upL t j).reverse ∧ u.length ≤ t.length ∧ (u.length : Int) + k ≤ j ∧ Ints wr l u ∧ Old w wr) (fun i _ _ => (intOf i + 1).toNat)
      case atStart => exact ⟨j, [], by omega, by omega, rfl, by rw [upR, if_neg (by omega), Int.toNat_natCast, List.append_nil], by simp, by simp, Ints.nil _, ho2⟩
      case round =>
        obtain ⟨k, u, hk0, hk1, rfl, hu, hul, huk, hown, hold⟩ := hrel
        have Hu := Lib.hid hu
        clear hu
        have Hown := Lib.hid hown
        obtain ⟨au, cu, rfl, _, _⟩ := hown.form
        clear hown
        by_cases hlt : 0 ≤ k
        · obtain ⟨m, rfl⟩ := Int.eq_ofNat_of_zero_le hlt
          have hm : m < t.length := by omega
          have hpl := par_lt t m
          have hlev := HG.out.lev m hm
          have Hstep := Lib.hid (upR_step t m)
          go_wp2_with (first
            | (at_builtin; refine wpList_append_ints (w0 := w) rfl _ _ 25 rfl 3 Try.underlying25 infoInt _ [p0 t m] u rfl (World.ownsRow_lit wr #[.int .i64 (p0 t m)] 1 hold.size (by decide) rfl) _ rfl (Hown.out.old ((Old.refl wr).alloc _)) (by simp; omega) (hold.alloc _) ?_; intro v1 w3 hown1 ho3 hg3)
            | (go_at_call 49; refine (above_any t _ m _ _ (hT'.out.old ho3) hm rfl hlev.1 hlev.2.1).mono ?_; rintro e w4 ⟨rfl, ho4⟩))
          go_roundw
          case rel => exact ⟨par t m, p0 t m :: u, by omega, by omega, rfl, by rw [← Hu.out, Hstep.out, List.reverse_cons, List.append_assoc]; rfl, by simp; omega, by simp; omega, hown1.ints.old ho4, ho3.trans ho4⟩
          case measure => simp [intOf]; omega
        · obtain rfl : k = -1 := by omega
          go_wp2_with fail
          go_ret2
          exact ⟨ret_path (by rw [Hs.out, ← Hu.out]; rfl) Hown.out, hold⟩
  · have hg1 : (goodE t != 0) = true := by simpa using hg
    go_enter Try.func32, Try.ntmps32
    go_wp2_with (go_at_call 10; refine (rgood_any t _ _ hT'.out).mono ?_; rintro e w1 ⟨rfl, ho1⟩)
    go_ret2
    exact ⟨ret_path (by rw [pathT, if_neg hg]) (Ints.nil _), ho1⟩
end Go.Proofs.Ytigpjfebnppejaa
