/-
  THE WALK OF TocShown.
-/
import Derived.Test.YtigpjfebnppejaaTocWalksK
import Derived.Test.YtigpjfebnppejaaTocPlain6
import Derived.Deep.RegionWith
import Derived.Deep.DeepCutAuto
namespace Go.Proofs.Ytigpjfebnppejaa
open Go.RowKit Go.Maps
attribute [local go_sem] Old.refl Old.alloc Old.drew Old.setCell OldW.old

/-- append(append([]int{}, o...), m...) in new memory -/
theorem shown_bytes {o m : List Int} (ho : o.length ≤ 1048576) (hm : m.length ≤ 1048576) : (o.length + m.length) * 8 ≤ 140737488355328 := by omega

set_option maxRecDepth 100000 in
set_option maxHeartbeats 20000000 in
theorem tocShown_row_walk (w : World) (t : List (Int × Int)) (v : Value) (hT : Prs w v t)
    (o : List Int) (uo : Value) (hO : Ints w uo o) (hob : ∀ i, i < o.length → -9223372036854775808 ≤ ix o i ∧ ix o i ≤ 9223372036854775807) (hol : o.length ≤ 1048576)
    (m : List Int) (um : Value) (hM : Ints w um m) (hmb : ∀ i, i < m.length → -9223372036854775808 ≤ ix m i ∧ ix m i ≤ 9223372036854775807) (hml : m.length ≤ 1048576) :
    Calls Try.prog 6 #[v, uo, um] w fun e w' => e = .returned (.bool true) ∧ Old w w' := by
  obtain ⟨a, cap, rfl, hcap, hcap'⟩ := hT.form
  have hT' := Lib.hid hT
  have hO' := Lib.hid (fun (W : World) (h : Old w W) => hO.old h)
  have hM' := Lib.hid hM
  have Hob := Lib.hid hob
  have Homb := Lib.hid (show ∀ i, i < (o ++ m).length → I64 (ix (o ++ m) i) from fun i hi => by
    by_cases h : i < o.length
    · rw [ix_left h]; exact hob i h
    · rw [List.length_append] at hi
      rw [show ix (o ++ m) i = ix m (i - o.length) from by simp [ix, List.getD, List.getElem?_append_right (Nat.le_of_not_lt h)]]
      exact hmb _ (by omega))
  have Hby := Lib.hid (shown_bytes hol hml)
  have hol8 : o.length * 8 ≤ 140737488355328 := by omega
  clear hT hO hM hob hmb hol hml
  go_enter Try.func6, Try.ntmps6
  go_upto_region 1 with fail
  go_cut [0] (fun s wx => ∃ (n : Nat) (u : List (Int × Int)), s = .slice a n cap ∧ Hid (Prs w (.slice a n cap) u) ∧ Hid (u.length = n) ∧ n ≤ 150 ∧ w = wx)
  case first =>
    rcases Nat.lt_or_ge 150 t.length with h | h
    all_goals
      go_wp2_with fail
      go_meet
    · exact ⟨150, t.take 150, rfl, hT'.out.take (by omega), Lib.hid (by simp; omega), by omega, rfl⟩
    · exact ⟨t.length, t, rfl, hT', rfl, h, rfl⟩
  case rest =>
    obtain ⟨n, u, rfl, hPu, hun, hn, rfl⟩ := hcut
    clear hT' hcap hcap'
    by_cases hg0 : goodE u = 0
    · have hg : (goodE u != 0) = false := by simp [hg0]
      have HGood := Lib.hid ((goodE_zero u).1 hg0)
      have Hg0 := Lib.hid hg0
      have Hsh := fun (l : List Int) => Lib.hid (shownT_good (o := l) hg0)
      clear hg0
      go_wp2_with fail
      refine (awake_any _).mono ?_
      rintro e w1 ⟨rfl, ho1⟩
      go_wp2_with fail
      refine (Calls.old ho1 (rgood_any u _ _ (hPu.out.old ho1))).mono ?_
      rintro e w2 ⟨rfl, ho2⟩
      go_wp2_with fail
      refine (Calls.old ho2 (twin_any u _ _ (hPu.out.old ho2) (by rw [hun.out]; omega))).mono ?_
      rintro e w3 ⟨⟨v3, rfl, hv3⟩, ho3⟩
      go_wp2_with (at_builtin; refine wpList_append_ints (w0 := w3) rfl _ _ 25 rfl 3 Try.underlying25 infoInt _ [] o rfl (World.ownsRow_lit w3 #[] 0 (Nat.le_refl _) (by simp) rfl) uo rfl (hO'.out _ (ho3.alloc _)) (by simpa using hol8) ((Old.refl w3).alloc _) ?_; intro v4 w4 hv4 ho4' _; have ho4 := ho3.trans ho4')
      refine (Shown_any u o v3 v4 _ (hv3.old ho4') hv4.ints Hob.out).mono ?_
      rw [(Hsh o).out]
      rintro e w5 ⟨⟨vA, rfl, hvA⟩, ho5⟩
      have ho5 := ho4.trans ho5
      clear ho4 ho4' hv4 hv3 ho3 ho2 ho1
      go_wp2_with fail
      refine (twin_any u _ _ (hPu.out.old ho5) (by rw [hun.out]; omega)).mono ?_
      rintro e w6 ⟨⟨v6, rfl, hv6⟩, ho6⟩
      have hvA6 := hvA.old ho6
      have ho6 := ho5.trans ho6
      have tok := True.intro
      go_wp2_with (first
        | (at_builtin; have _t := tok; refine wpList_append_ints (w0 := w6) rfl _ _ 25 rfl 3 Try.underlying25 infoInt _ [] o rfl (World.ownsRow_lit w6 #[] 0 (Nat.le_refl _) (by simp) rfl) uo rfl (hO'.out _ (ho6.alloc _)) (by simpa using hol8) ((Old.refl w6).alloc _) ?_; intro v7 w7 hv7 ho7 _; clear tok)
        | (at_builtin; refine wpList_append_ints (w0 := w6) rfl _ _ 25 rfl 3 Try.underlying25 infoInt _ ([] ++ o) m rfl hv7 um rfl (hM'.out.old (ho6.trans ho7)) Hby.out ho7 ?_; intro v8 w8 hv8 ho8 _))
      refine (Shown_any u (o ++ m) v6 v8 _ (hv6.old ho8) hv8.ints Homb.out).mono ?_
      rw [(Hsh (o ++ m)).out]
      rintro e w9 ⟨⟨vB, rfl, hvB⟩, ho9⟩
      have hvA9 := hvA6.old (ho8.trans ho9)
      have ho9 := (ho6.trans ho8).trans ho9
      clear ho8 ho7 ho6 ho5 hv6 hv7 hv8 hvA hvA6 Homb Hby hM'
      go_wp2_with fail
      go_loopw [11, 12] (fun l j wr => ∃ k : Nat, k ≤ n ∧ j = .int .i64 k ∧ OwnI 3 w9 wr l (tab k (p0 u)) ∧ Old w9 wr) (fun _ j _ => n - (intOf j).toNat)
      case atStart => exact ⟨0, by omega, rfl, OwnI.nil _ _ _, Old.refl _⟩
      case round =>
        obtain ⟨k, hk, rfl, hown, hold⟩ := hrel
        have hold0 := ho9.trans hold
        by_cases hkn : k < n
        · have HPw := Lib.hid (hPu.out.old hold0)
          obtain ⟨_, _, b, off, e0, hc1, hc2, ha, ht0, ht1⟩ := HPw.out
          simp at e0
          obtain ⟨rfl, e1, rfl⟩ := e0
          obtain rfl := ha (by omega)
          have htk := ht0 k (by omega)
          clear ht0 ht1 e1 ha
          go_wp2_with (at_builtin; refine wpList_append_ints (w0 := w9) rfl _ _ 25 rfl 3 Try.underlying25 infoInt _ (tab k (p0 u)) [p0 u k] rfl (hown.alloc _) _ rfl (Ints.one _ _ (p0 u k)) (by rw [tab_length]; simp; omega) (hold.alloc _) ?_; intro v' w3 hown3 ho3 _)
          go_roundw
          case rel => exact ⟨k + 1, by omega, by go_num, by rw [tab_snoc]; exact hown3, ho3⟩
          case measure => simp [intOf]; omega
        · obtain rfl : k = n := by omega
          obtain ⟨wa, rfl⟩ : ∃ wo : World, wo = wr := ⟨_, rfl⟩
          go_wp2_with fail
          refine (twin_any u _ _ (hPu.out.old hold0) (by rw [hun.out]; omega)).mono ?_
          rintro e wb ⟨⟨vb, rfl, hvb⟩, hob⟩
          go_wp2_with fail
          refine (Shown_any u (tab k (p0 u)) vb _ _ hvb (hown.ints.old hob) (fun i hi => ?_)).mono ?_
          · rw [tab_length] at hi
            rw [ix_tab hi]
            have := HGood.out.top i (by rw [hun.out]; exact hi)
            exact ⟨by omega, by omega⟩
          rw [(Hsh (tab k (p0 u))).out]
          rintro e wc0 ⟨⟨vC, rfl, hvC⟩, hoc⟩
          have hoC : Old w wc0 := (hold0.trans hob).trans hoc
          have HA := Lib.hid (fun (W : World) (h : Old wc0 W) => hvA9.old (((hold.trans hob).trans hoc).trans h))
          have HB := Lib.hid (fun (W : World) (h : Old wc0 W) => hvB.old (((hold.trans hob).trans hoc).trans h))
          have HC := Lib.hid (fun (W : World) (h : Old wc0 W) => hvC.old h)
          have hClen : (shTo u (tab k (p0 u)) u.length).length = k := by rw [hun.out]; exact shTo_all k (Nat.le_refl _)
          have HhA := Lib.hid (fun (i : Nat) (hi : i < k) => hasB_shTo (t := u) (o := o) (n := u.length) (i := i) (by rw [hun.out]; exact hi))
          have HhB := Lib.hid (fun (i : Nat) (hi : i < k) (hs : shB u o i = true) => (hasB_shTo (t := u) (o := o ++ m) (n := u.length) (i := i) (by rw [hun.out]; exact hi)).trans (shB_mono (fun x hx => hasB_left hx) i hs))
          have HhC := Lib.hid (fun (i : Nat) (hi : i < k) => (hasB_shTo (t := u) (o := tab k (p0 u)) (n := u.length) (i := i) (by rw [hun.out]; exact hi)).trans (shB_all i hi))
          obtain ⟨aA, cA, rfl, _, _⟩ := hvA9.form
          obtain ⟨aB, cB, rfl, _, _⟩ := hvB.form
          obtain ⟨aC, cC, rfl, _, _⟩ := hvC.form
          clear hvA9 hvB hvC hvb hown hob hoc hold hold0 ho9 Hsh
          generalize shTo u o u.length = LA at *
          generalize shTo u (o ++ m) u.length = LB at *
          generalize shTo u (tab k (p0 u)) u.length = LC at *
          have hcn : ((LC.length : Int) != (k : Int)) = false := by rw [hClen]; simp
          clear hClen
          go_wp2_with fail
          go_loopw [15] (fun j wr => ∃ i : Nat, i ≤ k ∧ j = .int .i64 i ∧ Old wc0 wr) (fun j _ => k - (intOf j).toNat)
          case atStart => exact ⟨0, by omega, rfl, Old.refl _⟩
          case round =>
            obtain ⟨i, hi, rfl, hold⟩ := hrel
            obtain ⟨wo, rfl⟩ : ∃ wo : World, wo = wr := ⟨_, rfl⟩
            have holdw := hoC.trans hold
            by_cases hik : i < k
            · have hiu : i < u.length := by rw [hun.out]; exact hik
              have HPw := Lib.hid (hPu.out.old holdw)
              obtain ⟨_, _, b, off, e0, hc1, hc2, ha, ht0, ht1⟩ := HPw.out
              simp at e0
              obtain ⟨rfl, e1, rfl⟩ := e0
              obtain rfl := ha (by omega)
              have hti := ht0 i hiu
              have HPath := Lib.hid (HGood.out.path_of hiu)
              have HLpos := upL_pos u i
              have HW := Lib.hid (want_path u o i)
              have hLle : (upL u i).reverse.length ≤ 151 := by rw [List.length_reverse]; have := upL_length u i; omega
              rw [← List.length_reverse] at HLpos HW
              generalize (upL u i).reverse = L at *
              clear e1 ha ht0 ht1
              go_upto_region 19 with fail
              go_cut [16, 17] (fun x y wx => y = .int .i64 0 ∧ Ints wx x L ∧ Old wo wx)
              case first =>
                go_region_with (first
                  | (go_at_call 12; refine (Calls.old ((Old.refl wo).drew) (twin_any u _ _ (HPw.out.old ((Old.refl wo).drew)) (by rw [hun.out]; omega))).mono ?_; rintro e w7 ⟨⟨v7, rfl, hv7⟩, ho7⟩)
                  | (go_at_call 17; refine (Calls.old ho7 (Path_any u _ _ _ hv7)).mono ?_; rw [HPath.out]; rintro e w8 ⟨⟨v8, rfl, hv8⟩, ho8⟩))
                all_goals (go_wp2_with fail; go_meet; exact ⟨rfl, hv8, ho8⟩)
              case rest =>
                obtain ⟨rfl, hL, ho4⟩ := hcut
                obtain ⟨aL, cL, bL, oL, rfl, hl1, hl2, haL, hcL⟩ := hL
                obtain rfl := haL HLpos
                obtain ⟨wp, rfl⟩ : ∃ wo : World, wo = wc := ⟨_, rfl⟩
                have hl0 : ((L.length : Int) == 0) = false := by rw [beq_eq_false_iff_ne]; omega
                clear hti haL
                go_wp2_with fail
                go_loopw [18, 19] (fun b j wr => ∃ q : Nat, q ≤ L.length - 1 ∧ j = .int .i64 q ∧ b = .bool (wantB L o q) ∧ Old wp wr) (fun _ j _ => L.length - (intOf j).toNat)
                case atStart => exact ⟨0, by omega, rfl, by rw [wantB_zero], Old.refl _⟩
                case round =>
                  obtain ⟨q, hq, rfl, rfl, holdq⟩ := hrel
                  have hcur : Old wc0 wr := (hold.trans ho4).trans holdq
                  have Hs := Lib.hid (wantB_succ L o q)
                  by_cases hql : q < L.length - 1
                  · have hcq := fun W h => hcL q (by omega) W (holdq.trans h)
                    clear hcL
                    by_cases hb : wantB L o q = true
                    · go_wp2_with (go_at_call 28; refine (has_any o (ix L q) _ _ (hO'.out _ (hoC.trans hcur))).mono ?_; rintro e w2 ⟨rfl, ho2⟩)
                      go_roundw
                      case rel => exact ⟨q + 1, by omega, by go_num, by rw [Hs.out, hb]; rfl, holdq.trans ho2⟩
                      case measure => first | (simp [intOf]; omega) | (simp [intOf]; done)
                    · have hb' : wantB L o q = false := by simpa using hb
                      go_wp2_with fail
                      go_roundw
                      case rel => exact ⟨q + 1, by omega, by go_num, by rw [Hs.out, hb']; rfl, holdq⟩
                      case measure => first | (simp [intOf]; omega) | (simp [intOf]; done)
                  · have hqt : decide ((q : Int) < (L.length : Int) - 1) = false := by simp; omega
                    have hw : wantB L o q = shB u o i := by rw [show q = L.length - 1 by omega]; exact HW.out
                    rcases Bool.eq_false_or_eq_true (shB u o i) with hs | hs
                    · have H1 := Lib.hid ((HhA.out i hik).trans hs)
                      have H2 := Lib.hid (HhB.out i hik hs)
                      have H3 := Lib.hid (HhC.out i hik)
                      rw [hs] at hw
                      clear hcL hs
                      have tk1 := True.intro
                      have tk2 := True.intro
                      have tk3 := True.intro
                      have tk4 := True.intro
                      go_wp2_with (first
                        | (go_at_call 28; clear tk1; refine (Calls.old hcur (has_any LA (i : Int) _ _ (HA.out _ hcur))).mono ?_; rw [H1.out]; rintro e w2 ⟨rfl, hq1⟩)
                        | (go_at_call 28; clear tk2; refine (Calls.old hq1 (has_any LA (i : Int) _ _ (HA.out _ hq1))).mono ?_; rw [H1.out]; rintro e w2 ⟨rfl, hq2⟩)
                        | (go_at_call 28; clear tk3; refine (Calls.old hq2 (has_any LB (i : Int) _ _ (HB.out _ hq2))).mono ?_; rw [H2.out]; rintro e w2 ⟨rfl, hq3⟩)
                        | (go_at_call 28; clear tk4; refine (Calls.old hq3 (has_any LC (i : Int) _ _ (HC.out _ hq3))).mono ?_; rw [H3.out]; rintro e w2 ⟨rfl, hq4⟩))
                      go_roundw
                      case rel => exact ⟨i + 1, by omega, by go_num, hq4⟩
                      case measure => first | (simp [intOf]; omega) | (simp [intOf]; done)
                    · have H1 := Lib.hid ((HhA.out i hik).trans hs)
                      have H3 := Lib.hid (HhC.out i hik)
                      rw [hs] at hw
                      clear hcL hs
                      have tk1 := True.intro
                      have tk2 := True.intro
                      have tk3 := True.intro
                      go_wp2_with (first
                        | (go_at_call 28; clear tk1; refine (Calls.old hcur (has_any LA (i : Int) _ _ (HA.out _ hcur))).mono ?_; rw [H1.out]; rintro e w2 ⟨rfl, hq1⟩)
                        | (go_at_call 28; clear tk2; refine (Calls.old hq1 (has_any LA (i : Int) _ _ (HA.out _ hq1))).mono ?_; rw [H1.out]; rintro e w2 ⟨rfl, hq2⟩)
                        | (go_at_call 28; clear tk3; refine (Calls.old hq2 (has_any LC (i : Int) _ _ (HC.out _ hq2))).mono ?_; rw [H3.out]; rintro e w2 ⟨rfl, hq3⟩))
                      go_roundw
                      case rel => exact ⟨i + 1, by omega, by go_num, hq3⟩
                      case measure => first | (simp [intOf]; omega) | (simp [intOf]; done)
            · go_wp2_with fail
              go_ret
              exact ⟨rfl, holdw⟩
    · have hg : (goodE u != 0) = true := by simpa using hg0
      go_wp2_with (first
        | (go_at_call 9; refine (awake_any _).mono ?_; rintro e w1 ⟨rfl, ho1⟩)
        | (go_at_call 10; refine (Calls.old ho1 (rgood_any u _ _ (hPu.out.old ho1))).mono ?_; rintro e w2 ⟨rfl, ho2⟩))
      go_ret
      exact ⟨rfl, ho2⟩
end Go.Proofs.Ytigpjfebnppejaa
