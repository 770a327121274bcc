/-
  THE WALK OF TocTree.
-/
import Derived.Test.YtigpjfebnppejaaTocWalksE
import Derived.Test.YtigpjfebnppejaaTocPlain2
import Derived.Deep.RegionWith
namespace Go.Proofs.Ytigpjfebnppejaa
open Go.RowKit Go.Maps
attribute [local go_sem] Old.refl Old.alloc Old.drew Old.setCell OldW.old OldBut.refl OldBut.alloc OldBut.drew OldBut.setCell

theorem slice_eq {a : Option Addr} {n m cap : Nat} (h : n = m) : Value.slice a m cap = Value.slice a n cap := by rw [h]
theorem ix_map (l : List Nat) {m : Nat} (h : m < l.length) : ix (l.map Int.ofNat) m = (l[m] : Int) := by simp [ix, List.getD, h]

set_option maxRecDepth 100000 in
set_option maxHeartbeats 2000000 in
theorem tree_bad (t u : List (Int × Int)) (n : Nat) (a : Option Addr) (cap : Nat) (w : World) (hPu : Hid (Prs w (.slice a n cap) u)) (_hun : Hid (u.length = n)) (hn : n ≤ 150)
    (hsl : (150 < t.length ∧ Hid (n = 150)) ∨ (t.length ≤ 150 ∧ Hid (n = t.length))) (hcap : t.length ≤ cap) (hcap' : cap ≤ 9223372036854775807) (hg : (goodE u != 0) = true) :
    Calls Try.prog 3 #[.slice a t.length cap] w fun e w' => e = .returned (.bool true) ∧ Old w w' := by
  rcases hsl with ⟨h, e⟩ | ⟨h, e⟩
  all_goals
    go_enter Try.func3, Try.ntmps3
    go_wp2_with fail
    rw [slice_eq e.out]
    refine (awake_any _).mono ?_
    rintro e w1 ⟨rfl, ho1⟩
    go_wp2_with fail
    refine (Calls.old ho1 (rgood_any u _ _ (hPu.out.old ho1))).mono ?_
    rintro e w2 ⟨rfl, ho2⟩
    go_wp2_with fail
    refine (Calls.old ho2 (twin_any u _ _ (hPu.out.old ho2) (by rw [_hun.out]; omega))).mono ?_
    rintro e w3 ⟨⟨v3, rfl, hv3⟩, ho3⟩
    go_wp2_with fail
    refine (Calls.old ho3 (Kids_root_bad u _ _ hv3 hg)).mono ?_
    rintro e w4 ⟨rfl, ho4⟩
    go_wp2_with fail
    go_ret
    exact ⟨rfl, ho4⟩

set_option maxRecDepth 100000 in
set_option maxHeartbeats 8000000 in
theorem tree_good (t u : List (Int × Int)) (n : Nat) (a : Option Addr) (cap : Nat) (w : World) (hPu : Hid (Prs w (.slice a n cap) u)) (hun : Hid (u.length = n)) (hn : n ≤ 150)
    (hsl : (150 < t.length ∧ Hid (n = 150)) ∨ (t.length ≤ 150 ∧ Hid (n = t.length))) (hcap : t.length ≤ cap) (hcap' : cap ≤ 9223372036854775807) (hg0 : goodE u = 0) :
    Calls Try.prog 3 #[.slice a t.length cap] w fun e w' => e = .returned (.bool true) ∧ Old w w' := by
  have hg : (goodE u != 0) = false := by simp [hg0]
  have HG := Lib.hid hg0
  have HGood := Lib.hid ((goodE_zero u).1 hg0)
  clear hg0
  have HK : ∀ z : Int, -1 ≤ z → z < n → Hid (∀ W v, Prs W v u → Calls Try.prog 11 #[v, .int .i64 z] W (fun e w' => RetOwnE 3 W w' ((kids u z).map Int.ofNat) 0 e ∧ Old W w')) := fun z h1 h2 W v hv => by
    by_cases hz : z = -1
    · subst hz; exact Kids_root u v W hv HG.out
    · obtain ⟨i, rfl⟩ := Int.eq_ofNat_of_zero_le (show 0 ≤ z by omega)
      exact Kids_in u i v W hv (atE_in HG.out (by omega) (by rw [hun.out]; exact h2))
  have HSpan : Hid (∀ i k : Nat, i < n → i < k → k < endp u i → endp u k ≤ endp u i) := fun i k h1 h2 h3 => endp_nest u i k h2 h3 (by rw [hun.out]; exact h1)
  rcases hsl with ⟨h, e⟩ | ⟨h, e⟩
  all_goals
    go_enter Try.func3, Try.ntmps3
    go_wp2_with fail
    rw [slice_eq e.out]
    refine (awake_any _).mono ?_
    rintro e w1 ⟨rfl, ho1⟩
    go_wp2_with fail
    refine (Calls.old ho1 (rgood_any u _ _ (hPu.out.old ho1))).mono ?_
    rintro e w2 ⟨rfl, ho2⟩
    have tok1 : True := trivial
    go_wp2_with (first
      | (at_make; have _t := tok1; refine wpList_make_ints (w0 := w) rfl _ _ 25 rfl 3 Try.underlying25 infoInt n rfl rfl (by omega) ho2 ?_; intro w3 hownT ho3 hs3; clear tok1; have ho3' := ho2.trans ho3)
      | (at_make; refine wpList_make_ints (w0 := w) rfl _ _ 25 rfl 3 Try.underlying25 infoInt n rfl rfl (by omega) ho3' ?_; intro w4 hownE ho4 hs4; have ho4' := ho3'.trans ho4))
    have hs2 := ho2.size
    have hownT := hownT.old ho4
    go_loopw [7] (fun i wr => ∃ z : Int, -1 ≤ z ∧ z ≤ n ∧ i = .int .i64 z ∧ OwnI 3 w wr (.slice (some ⟨w2.heap.size, 0, none⟩) n n) (tab n (timesF u z 0)) ∧
        OwnI 3 w wr (.slice (some ⟨w3.heap.size, 0, none⟩) n n) (tab n (endsF u z)) ∧ Old w wr ∧ w3.heap.size < wr.heap.size) (fun i _ => (n - intOf i).toNat)
    case atStart => exact ⟨-1, by omega, by omega, rfl, by rw [tab_congr (g := fun _ => 0) (fun k _ => timesF_start u k), ← tab_zero]; exact hownT, by rw [tab_congr (g := fun _ => 0) (fun k _ => endsF_start u k), ← tab_zero]; exact hownE, ho4', hs4⟩
    case round =>
      clear hownT hownE
      obtain ⟨z, hz1, hz2, rfl, hownT, hownE, hold, hsz⟩ := hrel
      obtain ⟨wo, rfl⟩ : ∃ wo : World, wo = wr := ⟨_, rfl⟩
      by_cases hzn : z < n
      · have HKz := HK z hz1 hzn
        go_wp2_with fail
        refine (twin_any u _ _ (hPu.out.old hold) (by rw [hun.out]; omega)).mono ?_
        rintro e w5 ⟨⟨v5, rfl, hv5⟩, ho5⟩
        go_wp2_with fail
        refine (HKz.out _ _ hv5).mono ?_
        rintro e w6 ⟨⟨v6, rfl, hv6⟩, ho6⟩
        obtain ⟨a6, c6, rfl, hc61, hc62⟩ := ownsRow_form hv6
        have ho56 := ho5.trans ho6
        have hownT6 := hownT.old ho56
        have hownE6 := hownE.old ho56
        have hs5 := ho5.size
        have hs6 := ho6.size
        have hmlen : ((kids u z).map Int.ofNat).length = (kids u z).length := List.length_map _
        rw [hmlen] at hc61
        have Hmlen := Lib.hid hmlen
        have hklen : (kids u z).length ≤ n := by
          have := List.length_filter_le (fun k => par u k == z) (List.range u.length)
          rw [List.length_range] at this
          rw [← hun.out]
          exact this
        rw [hmlen]
        clear hmlen
        go_wp2_with fail
        go_loopw [10] (fun j wx => ∃ m : Nat, m ≤ (kids u z).length ∧ j = .int .i64 m ∧ OwnI 3 w wx (.slice (some ⟨w2.heap.size, 0, none⟩) n n) (tab n (timesF u z m)) ∧
          OwnI 3 w wx (.slice (some ⟨w3.heap.size, 0, none⟩) n n) (tab n (endsF u z)) ∧ OldBut w2.heap.size w6 wx) (fun j _ => (kids u z).length - (intOf j).toNat)
        case atStart => exact ⟨0, by omega, rfl, hownT6, hownE6, OldBut.refl _ _⟩
        case round =>
          obtain ⟨m, hm, rfl, hT7, hE7, hbut⟩ := hrel
          have hold7 : Old w wr := hbut.base (hold.trans ho56) hs2
          by_cases hlt : m < (kids u z).length
          · have hcg := kids_get hlt
            have hfr := timesF_fresh hlt
            have Hnext := Lib.hid (tab_congr (n := n) (fun k _ => timesF_next hlt k))
            have hkm : ix ((kids u z).map Int.ofNat) m = ((kids u z)[m] : Int) := ix_map _ hlt
            obtain ⟨g6, rfl, hg61, hg62⟩ := hv6.block (by rw [Hmlen.out]; omega)
            have hc6 := hv6.cell (k := m) (by rw [Hmlen.out]; exact hlt)
            rw [hkm] at hc6
            have hc6' := laterBut (g := w2.heap.size) hc6 (by show g6 ≠ w2.heap.size; omega)
            generalize (kids u z)[m] = c at *
            obtain ⟨hcn, hpar⟩ := hcg
            have hpl := par_lt u c
            have Hpar := Lib.hid hpar
            rw [hpar] at hpl
            clear hpar hkm hc6
            have hcn' : c < n := by rw [← hun.out]; exact hcn
            have Hfr := Lib.hid hfr
            clear hfr hcn
            have hcT := hT7.cell (k := c) (by rw [tab_length]; exact hcn')
            rw [ix_tab hcn', Hfr.out] at hcT
            have hfT := hT7.frozen c
            have hc6r : ∀ W, OldBut w2.heap.size wr W → W.cell? ⟨g6, m, none⟩ = some (.int .i64 c) := fun W hW => hc6' W (hbut.trans hW)
            go_wp2_with fail
            have hTc := hT7.stored c 1
            rw [tab_set, ← Hnext.out] at hTc
            have hEc := hE7.setCell_other (g := w2.heap.size) (o := c) (.int .i64 1) (fun x hx => by cases hx; show w3.heap.size ≠ w2.heap.size; omega)
            have hbc := hbut.setCell c (.int .i64 1)
            have holdc : Old w (wr.setCell ⟨w2.heap.size, c, none⟩ (.int .i64 1)) := hold7.setCell hs2 _
            have hcc := later (hc6r _ ((OldBut.refl _ wr).setCell c (.int .i64 1)))
            clear hT7 hE7 hc6r hcT hfT hc6' hbut hold7
            generalize wr.setCell ⟨w2.heap.size, c, none⟩ (.int .i64 1) = Wc at *
            have HE := Lib.hid (atE_in (i := (c : Int)) HG.out (by omega) (by rw [hun.out]; omega))
            have HPc := Lib.hid (hPu.out.old holdc)
            go_region_with (first
              | (go_at_call 12; refine (Calls.old ((Old.refl Wc).drew) (twin_any u _ _ (HPc.out.old ((Old.refl Wc).drew)) (by rw [hun.out]; omega))).mono ?_; rintro e w7 ⟨⟨v7, rfl, hv7⟩, ho7⟩)
              | (go_at_call 13; refine (Calls.old ho7 (Parent_in u c _ _ hv7 HE.out)).mono ?_; rw [Hpar.out]; rintro e w8 ⟨rfl, ho8⟩))
            all_goals
              go_wp2_with fail
              go_roundw
              case rel => exact ⟨m + 1, by omega, by go_num, hTc.old ho8, hEc.old ho8, hbc.old ho8⟩
              case measure => first | (simp [intOf]; omega) | (simp [intOf]; done)
          · obtain rfl : m = (kids u z).length := by omega
            rw [tab_congr (fun k hk => timesF_end (by rw [hun.out]; exact hk))] at hT7
            clear hv6 hownT6 hownE6
            by_cases hz0 : z = -1
            · subst hz0
              rw [tab_congr (g := fun _ => 0) (fun k _ => endsF_start u k), ← tab_congr (f := endsF u (-1 + 1)) (g := fun _ => 0) (fun k _ => endsF_skip u k)] at hE7
              go_wp2_with fail
              go_roundw
              case rel => exact ⟨-1 + 1, by omega, by omega, by go_num, hT7, hE7, hold7, by have := hbut.size; omega⟩
              case measure => first | (simp [intOf]; omega) | (simp [intOf]; done)
            · obtain ⟨i, rfl⟩ := Int.eq_ofNat_of_zero_le (show 0 ≤ z by omega)
              have hin : i < n := by omega
              have HE := Lib.hid (atE_in (i := (i : Int)) HG.out (by omega) (by rw [hun.out]; omega))
              have her := endp_range u i (by rw [hun.out]; exact hin)
              rw [hun.out] at her
              have hbs := hbut.size
              clear hz0 hbut
              go_wp2_with (first
                | (go_at_call 12; refine (twin_any u _ _ (hPu.out.old hold7) (by rw [hun.out]; omega)).mono ?_; rintro e w7 ⟨⟨v7, rfl, hv7⟩, ho7⟩)
                | (go_at_call 14; refine (Calls.old ho7 (End_in u i _ _ hv7 HE.out)).mono ?_; rintro e w8 ⟨rfl, ho8⟩; have hE8 := hE7.old ho8; have hcE := hE8.cell (k := i) (by rw [tab_length]; exact hin); have hfE := hE8.frozen i))
              have hTs := (hT7.old ho8).setCell_other (g := w3.heap.size) (o := i) (.int .i64 (endp u i)) (fun x hx => by cases hx; show w2.heap.size ≠ w3.heap.size; omega)
              have hEs := hE8.stored i (endp u i)
              rw [tab_set, ← tab_congr (fun k _ => endsF_next u i k)] at hEs
              have hs8 := ho8.size
              go_roundw
              case rel => exact ⟨(i : Int) + 1, by omega, by omega, by go_num, hTs, hEs, (hold7.trans ho8).setCell (by show w.heap.size ≤ w3.heap.size; omega) _, by simp [World.setCell]; omega⟩
              case measure => first | (simp [intOf]; omega) | (simp [intOf]; done)
      · obtain rfl : z = n := by omega
        have hT1 : tab n (timesF u n 0) = tab n fun _ => 1 := tab_congr fun k hk => by
          have := timesF_all (t := u) (k := k) (by rw [hun.out]; exact hk)
          rwa [hun.out] at this
        have hE1 : tab n (endsF u n) = tab n fun k => endp u k := tab_congr fun k hk => by
          have := endsF_all (t := u) (k := k) (by rw [hun.out]; exact hk)
          rwa [hun.out] at this
        rw [hT1] at hownT
        rw [hE1] at hownE
        clear hT1 hE1 hsz hz1 hz2
        go_wp2_with fail
        go_loopw [15] (fun j wx => ∃ k : Nat, k ≤ n ∧ j = .int .i64 k ∧ OwnI 3 w wx (.slice (some ⟨w2.heap.size, 0, none⟩) n n) (tab n fun _ => 1) ∧
          OwnI 3 w wx (.slice (some ⟨w3.heap.size, 0, none⟩) n n) (tab n fun k => endp u k) ∧ Old w wx) (fun j _ => n - (intOf j).toNat)
        case atStart => exact ⟨0, by omega, rfl, hownT, hownE, hold⟩
        case round =>
          clear hownT hownE hold
          obtain ⟨k, hk, rfl, hownT, hownE, hold⟩ := hrel
          obtain ⟨wo, rfl⟩ : ∃ wo : World, wo = wr := ⟨_, rfl⟩
          by_cases hkn : k < n
          · have hcT := hownT.cell (k := k) (by rw [tab_length]; exact hkn)
            rw [ix_tab hkn] at hcT
            have her := endp_range u k (by rw [hun.out]; exact hkn)
            rw [hun.out] at her
            go_wp2_with fail
            go_loopw [16] (fun j wx => ∃ q : Nat, k + 1 ≤ q ∧ q ≤ endp u k ∧ j = .int .i64 q ∧ OwnI 3 w wx (.slice (some ⟨w2.heap.size, 0, none⟩) n n) (tab n fun _ => 1) ∧
              OwnI 3 w wx (.slice (some ⟨w3.heap.size, 0, none⟩) n n) (tab n fun k => endp u k) ∧ Old w wx) (fun j _ => n - (intOf j).toNat)
            case atStart => exact ⟨k + 1, by omega, by omega, by go_num, hownT, hownE, hold⟩
            case round =>
              clear hownT hownE hold hcT
              obtain ⟨q, hq1, hq2, rfl, hownT, hownE, hold⟩ := hrel
              have hck := later (hownE.cell (k := k) (by rw [tab_length]; exact hkn))
              rw [ix_tab hkn] at hck
              by_cases hq : q < endp u k
              · have hcq := later (hownE.cell (k := q) (by rw [tab_length]; omega))
                rw [ix_tab (by omega)] at hcq
                have hsp := HSpan.out k q hkn (by omega) hq
                go_wp2_with fail
                refine wp_region_old (Old.refl wr) (by kernel_rfl) (by kernel_rfl) ?_
                repeat (go_big_quiet_step (fail))
                refine wpQuiet_nil ?_
                rintro ⟨wq, hwq⟩
                dsimp only
                go_wp2_with fail
                go_roundw
                case rel => exact ⟨q + 1, by omega, by omega, by go_num, hownT.old hwq, hownE.old hwq, hold.trans hwq⟩
                case measure => first | (simp [intOf]; omega) | (simp [intOf]; done)
              · go_wp2_with fail
                go_roundw
                case rel => exact ⟨k + 1, by omega, by go_num, hownT, hownE, hold⟩
                case measure => first | (simp [intOf]; omega) | (simp [intOf]; done)
          · go_wp2_with fail
            go_ret
            exact ⟨rfl, hold⟩

theorem tree_walk (t : List (Int × Int)) (v : Value) (w : World) (hT : Prs w v t) :
    Calls Try.prog 3 #[v] w fun e w' => e = .returned (.bool true) ∧ Old w w' := by
  obtain ⟨a, cap, rfl, hc1, hc2⟩ := hT.form
  have key : ∀ (n : Nat) (u : List (Int × Int)), Prs w (.slice a n cap) u → u.length = n → n ≤ 150 → ((150 < t.length ∧ Hid (n = 150)) ∨ (t.length ≤ 150 ∧ Hid (n = t.length))) →
      Calls Try.prog 3 #[.slice a t.length cap] w fun e w' => e = .returned (.bool true) ∧ Old w w' := fun n u hP hu hn hs => by
    by_cases hg : goodE u = 0
    · exact tree_good t u n a cap w hP hu hn hs hc1 hc2 hg
    · exact tree_bad t u n a cap w hP hu hn hs hc1 hc2 (by simpa using hg)
  by_cases h : 150 < t.length
  · exact key 150 (t.take 150) (hT.take (by omega)) (by simp; omega) (by omega) (.inl ⟨h, rfl⟩)
  · exact key t.length t hT rfl (by omega) (.inr ⟨by omega, rfl⟩)

theorem tocTree_row_walk (t : List (Int × Int)) (v : Value) (w : World) (hT : Prs w v t) : Calls Try.prog 3 #[v] w fun e w' => e = .returned (.bool true) ∧ Old w w' := tree_walk t v w hT
end Go.Proofs.Ytigpjfebnppejaa
