/-
  THE WALK OF TocBack.
-/
import Derived.Test.YtigpjfebnppejaaTocWalksF
import Derived.Test.YtigpjfebnppejaaTocPlain3
import Derived.Deep.RegionWith
import Derived.Deep.DeepCutAuto
namespace Go.Proofs.Ytigpjfebnppejaa
open Go.RowKit Go.Maps
attribute [local go_sem] Old.refl Old.alloc Old.drew Old.setCell OldW.old

set_option maxRecDepth 100000 in
set_option maxHeartbeats 8000000 in
theorem back_walk (t : List (Int × Int)) (v : Value) (w : World) (hT : Prs w v t) :
    Calls Try.prog 4 #[v] w fun e w' => e = .returned (.bool true) ∧ Old w w' := by
  obtain ⟨a, cap, rfl, hcap, hcap'⟩ := hT.form
  have hT' := Lib.hid hT
  clear hT
  go_enter Try.func4, Try.ntmps4
  go_upto_region 1 with fail
  go_cut [0] (fun s wx => ∃ (n : Nat) (u : List (Int × Int)), s = .slice a n cap ∧ Hid (Prs w (.slice a n cap) u) ∧ Hid (u.length = n) ∧ n ≤ 150 ∧ w = wx)
  case first =>
    rcases Nat.lt_or_ge 150 t.length with h | h
    all_goals
      go_wp2_with fail
      go_meet
    · exact ⟨150, t.take 150, rfl, hT'.out.take (by omega), Lib.hid (by simp; omega), by omega, rfl⟩
    · exact ⟨t.length, t, rfl, hT', rfl, h, rfl⟩
  case rest =>
    obtain ⟨n, u, rfl, hPu, hun, hn, rfl⟩ := hcut
    clear hT' hcap hcap'
    have hcap := hPu.out.form
    by_cases hg0 : goodE u = 0
    · have hg : (goodE u != 0) = false := by simp [hg0]
      have HGood := Lib.hid ((goodE_zero u).1 hg0)
      clear hg0 hcap
      go_wp2_with (first
        | (go_at_call 9; refine (awake_any _).mono ?_; rintro e w1 ⟨rfl, ho1⟩)
        | (go_at_call 10; refine (Calls.old ho1 (rgood_any u _ _ (hPu.out.old ho1))).mono ?_; rintro e w2 ⟨rfl, ho2⟩))
      go_loopw [3] (fun j wr => ∃ i : Nat, i ≤ n ∧ j = .int .i64 i ∧ Old w wr) (fun j _ => n - (intOf j).toNat)
      case atStart => exact ⟨0, by omega, rfl, ho2⟩
      case round =>
        obtain ⟨i, hi, rfl, hold⟩ := hrel
        obtain ⟨wo, rfl⟩ : ∃ wo : World, wo = wr := ⟨_, rfl⟩
        by_cases hin : i < n
        · have hiu : i < u.length := by rw [hun.out]; exact hin
          have HPw := Lib.hid (hPu.out.old hold)
          obtain ⟨_, _, b, off, e0, hc1, hc2, ha, ht0, ht1⟩ := HPw.out
          simp at e0
          obtain ⟨rfl, e1, rfl⟩ := e0
          obtain rfl := ha (by omega)
          have hlv := HGood.out.lev i hiu
          have HPath := Lib.hid (HGood.out.path_of hiu)
          have HLlen := Lib.hid (HGood.out.upL_len i hiu)
          have HLpos := upL_pos u i
          have HLast := Lib.hid (show ix (upL u i).reverse ((upL u i).reverse.length - 1) = p0 u i by rw [ix_reverse (by rw [List.length_reverse]; omega), List.length_reverse, Nat.sub_self, upL_head])
          have HUp := Lib.hid (fun k (hk : k < (upL u i).reverse.length) => HGood.out.up_path hiu (k := k) (by rw [← List.length_reverse]; exact hk))
          have HLlen' : Hid ((((upL u i).reverse.length : Nat) : Int) = p1 u i) := by show _ = _; rw [List.length_reverse]; exact HLlen.out
          have hLle : (upL u i).reverse.length ≤ 151 := by rw [List.length_reverse]; have := upL_length u i; omega
          rw [← List.length_reverse] at HLpos
          generalize (upL u i).reverse = L at *
          clear e1 ha
          have hti := ht0 i hiu
          have htl := ht1 i hiu
          rcases Nat.lt_or_ge (i + 1) n with hi1 | hi1
          case' inl =>
            have HNext := Lib.hid (HGood.out.next_in (i := i) (by rw [hun.out]; exact hi1))
            have HPrev := Lib.hid (HGood.out.prev_in (i := i) (by rw [hun.out]; exact hi1))
            have hti1 := ht0 (i + 1) (by rw [hun.out]; exact hi1)
            have hd : decide (i + 1 < n) = true := by simpa using hi1
            go_upto_region 9 with fail
            go_cut [4, 5] (fun x y wx => x = .int .i64 (p0 u (i + 1)) ∧ y = .int .i64 0 ∧ Old wo wx)
            case first =>
              clear ht0 ht1
              go_region_with (first
                | (go_at_call 12; refine (Calls.old ((Old.refl wo).drew) (twin_any u _ _ (HPw.out.old ((Old.refl wo).drew)) (by rw [hun.out]; omega))).mono ?_; rintro e w3 ⟨⟨v3, rfl, hv3⟩, ho3⟩)
                | (go_at_call 15; refine (Calls.old ho3 (Next_any u _ _ _ hv3)).mono ?_; rw [HNext.out]; rintro e w4 ⟨rfl, ho4⟩))
              all_goals (go_wp2_with fail; go_meet; exact ⟨rfl, rfl, ho4⟩)
            obtain ⟨rfl, rfl, ho4⟩ := hcut
            go_wp2_with (first
              | (go_at_call 12; refine (Calls.old ho4 (twin_any u _ _ (HPw.out.old ho4) (by rw [hun.out]; omega))).mono ?_; rintro e w5 ⟨⟨v5, rfl, hv5⟩, ho5⟩)
              | (go_at_call 16; refine (Calls.old ho5 (Prev_any u _ _ _ hv5)).mono ?_; rw [HPrev.out]; rintro e w6 ⟨rfl, ho6⟩))
          case' inr =>
            have HNext := Lib.hid (HGood.out.next_out (i := i) hiu (by rw [hun.out]; omega))
            have hd : decide (i + 1 < n) = false := by simp; omega
            go_upto_region 9 with fail
            go_cut [4, 5] (fun x y wx => x = .int .i64 0 ∧ y = .int .i64 3 ∧ Old wo wx)
            case first =>
              clear ht0 ht1
              go_region_with (first
                | (go_at_call 12; refine (Calls.old ((Old.refl wo).drew) (twin_any u _ _ (HPw.out.old ((Old.refl wo).drew)) (by rw [hun.out]; omega))).mono ?_; rintro e w3 ⟨⟨v3, rfl, hv3⟩, ho3⟩)
                | (go_at_call 15; refine (Calls.old ho3 (Next_any u _ _ _ hv3)).mono ?_; rw [HNext.out]; rintro e w4 ⟨rfl, ho4⟩))
              all_goals (go_wp2_with fail; go_meet; exact ⟨rfl, rfl, ho4⟩)
            obtain ⟨rfl, rfl, ho6⟩ := hcut
            go_wp2_with fail
          all_goals
            go_cut [8, 5] (fun x y wx => y = .int .i64 0 ∧ Ints wx x L ∧ Old wo wx)
            case first =>
              clear ht0 ht1 htl
              go_region_with (first
                | (go_at_call 12; refine (Calls.old (ho6.drew) (twin_any u _ _ (HPw.out.old (ho6.drew)) (by rw [hun.out]; omega))).mono ?_; rintro e w7 ⟨⟨v7, rfl, hv7⟩, ho7⟩)
                | (go_at_call 17; refine (Calls.old ho7 (Path_any u _ _ _ hv7)).mono ?_; rw [HPath.out]; rintro e w8 ⟨⟨v8, rfl, hv8⟩, ho8⟩))
              all_goals (go_wp2_with fail; go_meet; exact ⟨rfl, hv8, ho8⟩)
            case rest =>
              obtain ⟨rfl, hL, ho9⟩ := hcut
              obtain ⟨aL, cL, bL, oL, rfl, hl1, hl2, haL, hcL⟩ := hL
              obtain rfl := haL HLpos
              have hlast := hcL (L.length - 1) (by omega)
              have hti9 := fun W h => hti W (ho9.trans h)
              have htl9 := fun W h => htl W (ho9.trans h)
              have hq1 : ((L.length : Int) != p1 u i) = false := by rw [HLlen'.out]; simp
              have hq2 : (ix L (L.length - 1) != p0 u i) = false := by rw [HLast.out]; simp
              have HPw9 := Lib.hid (HPw.out.old ho9)
              have Hti := Lib.hid hti
              clear ht0 ht1 hti htl
              go_wp2_with fail
              refine wp_region_old (Old.refl _) (by kernel_rfl) (by kernel_rfl) ?_
              repeat (go_big_quiet_step (fail))
              refine wpQuiet_nil ?_
              rintro ⟨wq, hq⟩
              dsimp only
              have hcL' := fun j hj W h => hcL j hj W (Old.trans hq h)
              clear hcL hlast hti9 htl9 hq1 hq2
              go_wp2_with fail
              go_loopw [9] (fun j wr => ∃ k : Nat, k ≤ L.length ∧ j = .int .i64 k ∧ Old wq wr) (fun j _ => L.length - (intOf j).toNat)
              case atStart => exact ⟨0, by omega, rfl, Old.refl _⟩
              case round =>
                obtain ⟨k, hk, rfl, hokr⟩ := hrel
                have hor : Old wo wr := (ho9.trans hq).trans hokr
                by_cases hkl : k < L.length
                · have hck := fun W h => hcL' k hkl W (hokr.trans h)
                  have hU := HUp.out k hkl
                  rcases Nat.eq_zero_or_pos k with hk0 | hk0
                  · rw [if_pos hk0] at hU
                    have HU := Lib.hid hU
                    have hkb : ((k : Int) == 0) = true := by simp; omega
                    have hkz : decide (0 < k) = false := by simp; omega
                    have hkz' : ¬ (0 < k) := by omega
                    clear hU hcL' hk0
                    go_upto_region 22 with fail
                    go_cut [10, 11] (fun x y wx => x = .int .i64 0 ∧ y = .int .i64 3 ∧ Old wr wx)
                    case first =>
                      go_region_with (first
                        | (go_at_call 12; refine (Calls.old ((Old.refl wr).drew) (twin_any u _ _ (HPw.out.old (hor.drew)) (by rw [hun.out]; omega))).mono ?_; rintro e w3 ⟨⟨v3, rfl, hv3⟩, ho3⟩)
                        | (go_at_call 18; refine (Calls.old ho3 (Up_any u _ _ _ hv3)).mono ?_; rw [HU.out]; rintro e w4 ⟨rfl, ho4⟩))
                      all_goals (go_wp2_with fail; go_meet; exact ⟨rfl, rfl, ho4⟩)
                    case rest =>
                      obtain ⟨rfl, rfl, ho5⟩ := hcut
                      go_wp2_with fail
                      go_roundw
                      case rel => exact ⟨k + 1, by omega, by go_num, hokr.trans ho5⟩
                      case measure => first | (simp [intOf]; omega) | (simp [intOf]; done)
                  · rw [if_neg (by omega)] at hU
                    have HU := Lib.hid hU
                    have hck1 := fun W h => hcL' (k - 1) (by omega) W (hokr.trans h)
                    have hkb : ((k : Int) == 0) = false := by simp; omega
                    clear hU hcL'
                    go_upto_region 22 with fail
                    go_cut [10, 11] (fun x y wx => x = .int .i64 (ix L (k - 1)) ∧ y = .int .i64 0 ∧ Old wr wx)
                    case first =>
                      go_region_with (first
                        | (go_at_call 12; refine (Calls.old ((Old.refl wr).drew) (twin_any u _ _ (HPw.out.old (hor.drew)) (by rw [hun.out]; omega))).mono ?_; rintro e w3 ⟨⟨v3, rfl, hv3⟩, ho3⟩)
                        | (go_at_call 18; refine (Calls.old ho3 (Up_any u _ _ _ hv3)).mono ?_; rw [HU.out]; rintro e w4 ⟨rfl, ho4⟩))
                      all_goals (go_wp2_with fail; go_meet; exact ⟨rfl, rfl, ho4⟩)
                    case rest =>
                      obtain ⟨rfl, rfl, ho5⟩ := hcut
                      go_wp2_with fail
                      go_roundw
                      case rel => exact ⟨k + 1, by omega, by go_num, hokr.trans ho5⟩
                      case measure => first | (simp [intOf]; omega) | (simp [intOf]; done)
                · go_wp2_with fail
                  go_roundw
                  case rel => exact ⟨i + 1, by omega, by go_num, hold.trans hor⟩
                  case measure => first | (simp [intOf]; omega) | (simp [intOf]; done)
        · go_wp2_with fail
          go_ret
          exact ⟨rfl, hold⟩
    · have hg : (goodE u != 0) = true := by simpa using hg0
      go_wp2_with (first
        | (go_at_call 9; refine (awake_any _).mono ?_; rintro e w1 ⟨rfl, ho1⟩)
        | (go_at_call 10; refine (Calls.old ho1 (rgood_any u _ _ (hPu.out.old ho1))).mono ?_; rintro e w2 ⟨rfl, ho2⟩))
      go_ret
      exact ⟨rfl, ho2⟩
end Go.Proofs.Ytigpjfebnppejaa
