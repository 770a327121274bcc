/-
  LINK: the walk of LinkAll.
-/
import Derived.Test.YtkaoipegbjmlnaaDoorZLinkRefsWalk
import Derived.Test.YtkaoipegbjmlnaaDoorZAllP
import Derived.Test.YtkaoipegbjmlnaaDoorZQuiet
namespace Go.Proofs.YtkaoipegbjmlnaaDoor
open Go.RowKit
attribute [local go_sem] Old.refl Old.alloc Old.drew Old.setCell OldW.old

theorem oneO_len {dir : List Nm} {fr : Nat} : ∀ {ps : List Pc} {l : List Rfr}, oneO dir fr ps = some l → l.length = nP ps
  | [], l, h => by
    obtain rfl : [] = l := Option.some.inj h
    rfl
  | p :: ps, l, h => by
    unfold oneO at h
    unfold nP
    rw [List.countP_cons]
    by_cases h2 : refB p = true
    · rw [if_pos h2] at h
      rw [if_pos h2]
      by_cases h3 : goodB dir p = true
      · rw [if_pos h3] at h
        obtain ⟨m, hm, rfl⟩ := Option.map_eq_some_iff.1 h
        have := oneO_len hm
        unfold nP at this
        simp [this]
      · rw [if_neg h3] at h; cases h
    · rw [if_neg h2] at h
      rw [if_neg h2]
      exact oneO_len h
theorem allO_len {dir : List Nm} : ∀ {T : List (List Pc)} {fr : Nat} {l : List Rfr}, allO dir T fr = some l → l.length = (T.map nP).sum
  | [], fr, l, h => by
    obtain rfl : [] = l := Option.some.inj h
    rfl
  | ps :: T, fr, l, h => by
    rw [allO_cons] at h
    obtain ⟨a, ha, h⟩ := Option.bind_eq_some_iff.1 h
    obtain ⟨b, hb, rfl⟩ := Option.map_eq_some_iff.1 h
    rw [List.length_append, oneO_len ha, allO_len hb, List.map_cons, List.sum_cons]
theorem nS_grp (cut : Int) (T : List (List Pc)) : nS (grp cut T) = (T.map nP).sum := by
  rw [nS_flatten, grp_flatten, List.map_map]
  congr 1
  exact List.map_congr_left fun ps _ => nB_top ps
theorem refs_ok {dir : List Nm} {cut : Int} {T : List (List Pc)} {l : List Rfr} (h : refsR dir (grp cut T) = .ok l) : allO dir T 0 = some l ∧ T.length ≤ 1000 := by
  unfold refsR at h
  by_cases hb : 1000 < nT (grp cut T) ∨ 65536 < nS (grp cut T)
  · rw [if_pos hb] at h; cases h
  · rw [if_neg hb] at h
    have h2 := goS_opt (dir := dir) (src := 0) (fr := 0) (acc := []) (grp_flatten cut T)
    rw [h] at h2
    have h3 : nT (grp cut T) = T.length := by rw [nT_flatten, grp_flatten, List.length_map]
    refine ⟨?_, by omega⟩
    cases hx : allO dir T 0 with
    | none => rw [hx] at h2; cases h2
    | some m => rw [hx] at h2; exact h2.symm
theorem refs_bad {dir : List Nm} {cut : Int} {T0 : List (List Pc)} {ps : List Pc} {l : List Rfr} (h : allO dir (T0 ++ [ps]) 0 = some l) (hT : (T0 ++ [ps]).length ≤ 1000) (hl : l.length < 65536) :
    refsR dir (grp cut (T0 ++ [ps ++ [badP]])) = .error ⟨80, (grp cut (T0 ++ [ps ++ [badP]])).length - 1, 77, 5, ⟨#[255, 255]⟩⟩ := by
  unfold refsR
  have h1 : nT (grp cut (T0 ++ [ps ++ [badP]])) = (T0 ++ [ps]).length := by rw [nT_flatten, grp_flatten, List.length_map]; simp
  have h2 : nS (grp cut (T0 ++ [ps ++ [badP]])) = l.length + 1 := by
    rw [nS_grp, allO_len h]
    have hb : nP (ps ++ [badP]) = nP ps + 1 := by unfold nP; rw [List.countP_append]; rfl
    simp [hb]
    omega
  rw [if_neg (by rw [h1, h2]; omega)]
  exact more_bad h
theorem infoSlP : (Tryd.prog.info? 39).map (fun i => (i.zero, i.size, i.bytes)) = some (some (.slice none 0 0), 1, 24) := by kernel_rfl
theorem infoPc : (Tryd.prog.info? 41).map (fun i => (i.zero, i.size, i.bytes)) = some (some (.agg #[.int .i64 0, .string ⟨#[]⟩, .int .i64 0, .int .i64 0]), 4, 40) := by kernel_rfl
theorem Srcs.form' {w : World} {v : Value} {S : List (List (List (List Pc)))} (h : Srcs w v S) : ∃ a cap, v = .slice a S.length cap ∧ S.length ≤ cap ∧ cap ≤ 9223372036854775807 := Seqs.form h
/-- a piece that is a reference, among all -/
theorem oneO_drop {dir : List Nm} {fr k : Nat} {P : List Pc} {p : Pc} {m : List Rfr} (hp : P[k]? = some p) (h : oneO dir fr (P.drop k) = some m) :
    (refB p = true ∧ ∃ kk d m', judge dir p = .ok kk ∧ dir[kk]? = some d ∧ d.kind = noteI p ∧ m = ⟨fr, kk, noteI p, p.name, p.line, p.col⟩ :: m' ∧ oneO dir fr (P.drop (k + 1)) = some m') ∨ (refB p = false ∧ oneO dir fr (P.drop (k + 1)) = some m) := by
  rw [drop_at hp] at h
  unfold oneO at h
  by_cases h2 : refB p = true
  · rw [if_pos h2] at h
    refine .inl ⟨h2, ?_⟩
    cases hj : judge dir p with
    | error c =>
      have hg : goodB dir p = false := by unfold goodB; rw [hj]
      rw [hg] at h; cases h
    | ok kk =>
      have hg : goodB dir p = true := by unfold goodB; rw [hj]
      have hm : mkRf dir fr p = ⟨fr, kk, noteI p, p.name, p.line, p.col⟩ := by unfold mkRf; rw [hj]
      rw [if_pos hg, hm] at h
      obtain ⟨m', hm', rfl⟩ := Option.map_eq_some_iff.1 h
      have hj2 := hj
      rw [judge_fnd] at hj2
      cases hf : fnd dir p.name with
      | none => rw [hf] at hj2; cases hj2
      | some q =>
        rw [hf] at hj2
        dsimp only at hj2
        obtain ⟨d, hd, _⟩ := fnd_some hf
        by_cases e : dir[q]?.map Nm.kind = some (noteI p)
        · rw [if_pos e] at hj2
          obtain rfl : q = kk := by injection hj2
          rw [hd] at e
          exact ⟨q, d, m', rfl, hd, Option.some.inj e, rfl, hm'⟩
        · rw [if_neg e] at hj2; cases hj2
  · rw [if_neg h2] at h
    exact .inr ⟨Bool.eq_false_iff.2 h2, h⟩
set_option maxRecDepth 100000 in
set_option maxHeartbeats 6400000 in
theorem linkAll_any (v vd : Value) (T : List (List Pc)) (cut : Int) (dir : List Nm) (w : World) (hTb : Tabs w) (hv : Topics w v T) (hd : Recs nmE w vd dir) (hT : T.length ≤ 1048576) (hP : ∀ (i : Nat) (ps : List Pc), T[i]? = some ps → ps.length ≤ 1048576)
    (hdl : dir.length * 64 ≤ 140737488355328) (hdn : ∀ d ∈ dir, d.norm.size ≤ 9223372036854775807) :
    Calls Tryd.prog 4 #[v, .int .i64 cut, vd] w fun e w' => e = .returned (.bool true) ∧ Old w w' := by
  obtain ⟨g1, g2, g3⟩ := grp_small (cut := cut) (T := T) (by omega) (fun i ps h => by have := hP i ps h; omega)
  have HS := Lib.hid (fun V (o : Old w V) => sources_any v T cut V (hv.old o) (by omega) (fun i ps h => by have := hP i ps h; omega))
  have HR := Lib.hid (fun s d V (o : Old w V) hs hd => Refs_any s (grp cut T) dir d V (hTb.old o) hs hd (by omega) g2 g3 (by omega) hdn)
  have HS2 := Lib.hid (fun v2 T2 V (_ : Old w V) (h : Topics V v2 T2) h1 h2 => sources_any v2 T2 cut V h h1 h2)
  have HR2 := Lib.hid (fun s T2 d V (o : Old w V) hs hd h1 h2 h3 => Refs_any s (grp cut T2) dir d V (hTb.old o) hs hd h1 h2 h3 (by omega) hdn)
  have Hok := Lib.hid (fun l h => refs_ok (dir := dir) (cut := cut) (T := T) (l := l) h)
  have Hd := Lib.hid hd
  have Hv := Lib.hid hv
  have HP := Lib.hid hP
  obtain ⟨av, cv, rfl, hcv1, hcv2⟩ := hv.form
  obtain ⟨ad, cd, rfl, hcd1, hcd2⟩ := hd.form
  obtain ⟨bd, od, had, hatd⟩ := hd.nm
  have Had := Lib.hid had
  have Hatd := Lib.hid hatd
  obtain ⟨bv, ov, hav, hatv⟩ := hv.at
  have Hav := Lib.hid hav
  have Hatv := Lib.hid hatv
  clear hv hd hTb hP hdn g1 g2 g3 had hatd hav hatv
  generalize hR0 : refsR dir (grp cut T) = R at *
  clear hR0
  go_enter Tryd.func4, Tryd.ntmps4
  go_wp2_with fail
  refine (awake_any _).mono ?_
  rintro e w0 ⟨rfl, o0⟩
  go_wp2_with fail
  refine (HS.out _ o0).mono ?_
  rintro e w1 ⟨⟨s1, rfl, hs1⟩, o1'⟩
  have o1 := o0.trans o1'
  have Hs1 := Lib.hid hs1
  clear hs1 o1' o0
  go_wp2_with (at_builtin; go_loud (refine wpList_append_recs (c := nmE) (w0 := w1) rfl _ _ 23 rfl 45 Tryd.underlying23 _ infoNm rfl (Nat.zero_lt_succ 5) _ [] dir rfl (World.ownsRow_lit w1 #[] 0 (Nat.le_refl _) (by simp) rfl) _ rfl (Hd.out.old (o1.alloc _)) (by simp; omega) (by simpa using hdl) ((Old.refl w1).alloc _) ?_); intro d2 w2 hd2 ho2 hg2)
  have Hd2 := Lib.hid (show Recs nmE w2 d2 dir from hd2.recs)
  have o2 := o1.trans ho2
  have os2 := Hs1.out.old ho2
  clear hd2 hg2
  refine (HR.out s1 d2 w2 o2 os2 Hd2.out).mono ?_
  rintro e w3 ⟨hr3, o3⟩
  have o13 := o2.trans o3
  clear Hs1 os2 Hd2 o2 o3 ho2 o1 HS HR
  rcases hr3 with ⟨l, u3, hR, rfl, hu⟩ | ⟨f, u3, hR, hfc, rfl, hu⟩
  rotate_left
  · obtain ⟨g, rfl, _⟩ := hu
    clear Hok HS2 HR2
    go_wp2_with fail
    go_ret
    exact ⟨rfl, o13⟩
  · obtain ⟨hall, hT1⟩ := Hok.out l hR
    have Hall := Lib.hid hall
    have hu2 := hu.recs
    obtain ⟨au, cu, bu, ou, rfl, hcu1, hcu2, hau, htu⟩ := hu2
    have Hau := Lib.hid hau
    have Htu := Lib.hid htu
    clear hu hau htu hall hR Hok
    go_wp2_with fail
    go_loopw [9, 10] (fun x j wr => ∃ i n : Nat, j = .int .i64 i ∧ x = .int .i64 n ∧ i ≤ T.length ∧ n ≤ l.length ∧ allO dir (T.drop i) i = some (l.drop n) ∧ Old w3 wr) (fun _ j _ => T.length - (intOf j).toNat)
    case atStart => exact ⟨0, 0, rfl, rfl, Nat.zero_le _, Nat.zero_le _, Hall.out, Old.refl _⟩
    case round =>
      obtain ⟨i, n, rfl, rfl, hi, hn, hal, ho⟩ := hrel
      by_cases hlt : i < T.length
      · have hi1 : (i : Int) < T.length := by omega
        obtain ⟨P, hPi⟩ : ∃ P, T[i]? = some P := ⟨_, List.getElem?_eq_getElem hlt⟩
        rw [drop_at hPi, allO_cons] at hal
        obtain ⟨m0, hm0, hal⟩ := Option.bind_eq_some_iff.1 hal
        obtain ⟨rest, hrest, hal⟩ := Option.map_eq_some_iff.1 hal
        have Hrest := Lib.hid hrest
        obtain ⟨⟨ap, mp, cp⟩, hx, hxc⟩ := Hatv.out i P hPi
        obtain ⟨_, cp', e0, hp1, hp2⟩ := Recs.form hx
        obtain ⟨rfl, rfl, rfl⟩ := Value.slice.inj e0
        obtain rfl := Hav.out (by omega)
        have Hcx := Lib.hid (fun V (o : Old w3 V) => hxc 0 _ rfl V (o13.trans o))
        simp only [slE, Sl.v, Nat.mul_one, Nat.add_zero] at Hcx
        obtain ⟨bp, op, hap, hatp⟩ := hx.pc
        have Hap := Lib.hid hap
        have Hatp := Lib.hid hatp
        clear hx hxc e0 hPi hap hatp hrest
        go_wp2_with fail
        go_loopw [9, 11] (fun x j wr => ∃ (k n : Nat) (m : List Rfr), j = .int .i64 k ∧ x = .int .i64 n ∧ k ≤ P.length ∧ n ≤ l.length ∧ oneO dir i (P.drop k) = some m ∧ m ++ rest = l.drop n ∧ Old w3 wr) (fun _ j _ => P.length - (intOf j).toNat)
        case atStart => exact ⟨0, n, m0, rfl, rfl, Nat.zero_le _, hn, hm0, hal, ho⟩
        case round =>
          clear hm0 hal ho hn
          obtain ⟨k, n, m, rfl, rfl, hk, hn, hm, hal, ho⟩ := hrel
          have c0 : ∀ V, Old wr V → V.cell? ⟨bv, ov + i, none⟩ = some (.slice _ P.length cp) := fun V o => Hcx.out V (ho.trans o)
          by_cases hlt2 : k < P.length
          · have hk1 : (k : Int) < P.length := by omega
            obtain ⟨p, hpk⟩ : ∃ p, P[k]? = some p := ⟨_, List.getElem?_eq_getElem hlt2⟩
            obtain rfl := Hap.out (by omega)
            have kc : ∀ V, Old wr V → V.cell? ⟨bp, op + k * 4, none⟩ = some (.int .i64 p.kind) := fun V o => (Hatp.out k p hpk V (o13.trans (ho.trans o))).1
            rcases oneO_drop hpk hm with ⟨hrt, kk, d, m', hj, hdk, hkd, rfl, hm'⟩ | ⟨hrt, hm'⟩
            · have hln : l[n]? = some ⟨i, kk, noteI p, p.name, p.line, p.col⟩ := by
                have h := congrArg (fun z => z[0]?) hal
                simp at h
                exact h.symm
              have hnl : n < l.length := (List.getElem?_eq_some_iff.1 hln).1
              have hni : (n : Int) < l.length := by omega
              have hni2 : ¬ (l.length : Int) ≤ n := by omega
              obtain rfl := Hau.out (by omega)
              have L := fun V (o : Old wr V) => Recs.six Htu.out hln V (ho.trans o)
              have hal2 : m' ++ rest = l.drop (n + 1) := by
                rw [drop_at hln] at hal
                exact (List.cons.inj hal).2
              have Hm' := Lib.hid hm'
              have Hal := Lib.hid hal2
              have l0 := fun V (o : Old wr V) => (L V o).1
              have l1 := fun V (o : Old wr V) => (L V o).2.1
              have l2 := fun V (o : Old wr V) => (L V o).2.2.1
              have hkl : kk < dir.length := (List.getElem?_eq_some_iff.1 hdk).1
              have hk2 : ¬ (kk : Int) < 0 := by omega
              have hk3 : ¬ (dir.length : Int) ≤ kk := by omega
              have hk4 : (kk : Int) < dir.length := by omega
              obtain rfl := Had.out (by omega)
              have dk := fun V (o : Old wr V) => (Hatd.out kk d hdk V (o13.trans (ho.trans o))).2.2.2.2.1
              have e1 : decide ((l.length : Int) ≤ n) = false := decide_eq_false hni2
              have e2 : decide ((kk : Int) < 0) = false := decide_eq_false hk2
              have e3 : decide ((dir.length : Int) ≤ kk) = false := decide_eq_false hk3
              rw [hkd] at dk
              dsimp only at l0 l1 l2
              clear hm hal hm' hal2 hj hdk hkd L hln hpk
              have hor := refB_iff.1 hrt
              clear hrt
              rcases hor with h3 | h4
              · have hN : noteI p = 0 := by unfold noteI; rw [if_neg (by rw [h3]; decide)]
                rw [hN] at l2 dk
                rw [h3] at kc
                clear hN h3
                go_upto_region 14 with fail
                refine wp_region_old (Old.refl _) (by kernel_rfl) (by kernel_rfl) ?_
                repeat (go_big_quiet_step (fail))
                refine wpQuiet_nil ?_
                rintro ⟨wq, hq⟩
                dsimp only
                go_wp2_with fail
                go_roundw
                case rel => exact ⟨k + 1, n + 1, m', by go_num, by go_num, by omega, by omega, Hm'.out, Hal.out, ho.trans hq⟩
                case measure => simp [intOf]; omega
              · have hN : noteI p = 1 := by unfold noteI; rw [if_pos h4]
                rw [hN] at l2 dk
                rw [h4] at kc
                clear hN h4
                go_upto_region 14 with fail
                refine wp_region_old (Old.refl _) (by kernel_rfl) (by kernel_rfl) ?_
                repeat (go_big_quiet_step (fail))
                refine wpQuiet_nil ?_
                rintro ⟨wq, hq⟩
                dsimp only
                go_wp2_with fail
                go_roundw
                case rel => exact ⟨k + 1, n + 1, m', by go_num, by go_num, by omega, by omega, Hm'.out, Hal.out, ho.trans hq⟩
                case measure => simp [intOf]; omega
            · have h3 : (p.kind == 3) = false := by rw [beq_eq_false_iff_ne]; exact fun h => by rw [refB_iff.2 (.inl h)] at hrt; cases hrt
              have h4 : (p.kind == 4) = false := by rw [beq_eq_false_iff_ne]; exact fun h => by rw [refB_iff.2 (.inr h)] at hrt; cases hrt
              have Hm' := Lib.hid hm'
              have Hal := Lib.hid hal
              clear hrt hm hm' hal hpk
              go_wp2_with fail
              go_roundw
              case rel => exact ⟨k + 1, n, m, by go_num, by first | rfl | trivial, by omega, by omega, Hm'.out, Hal.out, ho⟩
              case measure => simp [intOf]; omega
          · have hkP : k = P.length := by omega
            subst hkP
            have hk1 : ¬ (P.length : Int) < P.length := by omega
            rw [List.drop_length] at hm
            have Hal := Lib.hid (show allO dir (T.drop (i + 1)) (i + 1) = some (l.drop n) from by
              obtain rfl : [] = m := Option.some.inj hm
              rw [Hrest.out, ← hal]; rfl)
            clear hm hal
            go_wp2_with fail
            go_roundw
            case rel => exact ⟨i + 1, n, by go_num, by first | rfl | trivial, by omega, hn, Hal.out, ho⟩
            case measure => simp [intOf]; omega
      · have hiT : i = T.length := by omega
        subst hiT
        have hi1 : ¬ (T.length : Int) < T.length := by omega
        rw [List.drop_length] at hal
        have hnl : n = l.length := by
          have h := Option.some.inj hal
          have h2 := congrArg List.length h
          rw [List.length_drop] at h2
          simp at h2
          omega
        subst hnl
        clear hal
        have o3 := o13.trans ho
        rcases List.eq_nil_or_concat T with hT0 | ⟨T0, ps, hTc⟩
        · have hz : (T.length : Int) = 0 := by rw [hT0]; rfl
          have hzb : ((T.length : Int) == 0) = true := by rw [beq_iff_eq]; exact hz
          clear hT0
          generalize T.length = tl at *
          go_wp2_with fail
          go_ret
          exact ⟨rfl, o3⟩
        · have hz : ((T.length : Int) == 0) = false := by
            rw [beq_eq_false_iff_ne, hTc]; simp; omega
          by_cases hbig : 65536 ≤ l.length
          · have hbi : (65536 : Int) ≤ l.length := by omega
            go_wp2_with fail
            go_ret
            exact ⟨rfl, o3⟩
          · have hbi : ¬ (65536 : Int) ≤ l.length := by omega
            have hlen : T.length = T0.length + 1 := by rw [hTc]; simp
            have hw1 : IntKind.i64.wrap ((T.length : Int) - 1) = (T0.length : Int) := by rw [IntWalk.i64_in _ (by omega)]; omega
            have hw2 : IntKind.i64.wrap (T0.length : Int) = (T0.length : Int) := IntWalk.i64_in _ (by omega)
            have hl1 : (T0.length : Int) < T.length := by omega
            have hTi : T[T0.length]? = some ps := by rw [hTc, List.concat_eq_append]; simp
            have hpsl := HP.out _ _ hTi
            have Hbad := Lib.hid (show refsR dir (grp cut (T0 ++ [ps ++ [badP]])) = .error ⟨80, (grp cut (T0 ++ [ps ++ [badP]])).length - 1, 77, 5, ⟨#[255, 255]⟩⟩ from by
              have h := Hall.out
              rw [hTc, List.concat_eq_append] at h
              exact refs_bad h (by rw [← List.concat_eq_append, ← hTc]; exact hT1) (by omega))
            obtain ⟨t, ht, hb⟩ := Hv.out
            have htl : t.length = T.length := hb.1
            have hbo : Both (TopicR w) t (T0 ++ [ps]) := by rw [← List.concat_eq_append, ← hTc]; exact hb
            have Hbo := Lib.hid hbo
            have Ht := Lib.hid ht
            obtain ⟨⟨ap, mp, cp⟩, hx, hxc⟩ := Hatv.out _ _ hTi
            obtain ⟨_, cp', e0, hp1, hp2⟩ := Recs.form hx
            obtain ⟨rfl, rfl, rfl⟩ := Value.slice.inj e0
            obtain rfl := Hav.out (by omega)
            have Hx := Lib.hid hx
            have Hc0 := Lib.hid (fun V (o : Old wr V) => hxc 0 _ rfl V (o3.trans o))
            simp only [slE, Sl.v, Nat.mul_one, Nat.add_zero] at Hc0
            have Hsmall := Lib.hid (grp_small (cut := cut) (T := T0 ++ [ps ++ [badP]]) (by simp; omega) (fun i q hq => by
              have hm := List.mem_of_getElem? hq
              rcases List.mem_append.1 hm with hm | hm
              · obtain ⟨j, hj, e⟩ := List.mem_iff_getElem.1 hm
                have := HP.out j q (by rw [hTc, List.concat_eq_append, List.getElem?_append_left hj, List.getElem?_eq_getElem hj, e])
                omega
              · obtain rfl := List.mem_singleton.1 hm
                simp; omega))
            have Hlen2 : Hid (∀ (i : Nat) (q : List Pc), (T0 ++ [ps ++ [badP]])[i]? = some q → q.length ≤ 1048577) := fun i q hq => by
              have hm := List.mem_of_getElem? hq
              rcases List.mem_append.1 hm with hm | hm
              · obtain ⟨j, hj, e⟩ := List.mem_iff_getElem.1 hm
                have := HP.out j q (by rw [hTc, List.concat_eq_append, List.getElem?_append_left hj, List.getElem?_eq_getElem hj, e])
                omega
              · obtain rfl := List.mem_singleton.1 hm
                simp; omega
            have HTl : Hid ((T0 ++ [ps ++ [badP]]).length ≤ 1048577) := Lib.hid (by simp; omega)
            have HTt : Hid (∀ (R : Sl → List Pc → Prop) t0 y, Both R t0 T0 → R y (ps ++ [badP]) → Both R (t0 ++ [y]) (T0 ++ [ps ++ [badP]])) := fun R t0 y h1 h2 => Both.snoc h1 h2
            have Hpb : Hid (∀ (l : List Pc), l = ps ++ [badP] → l.length = ps.length + 1) := fun l h => by rw [h]; simp
            clear hx hxc e0 hTi hbo hb ht hTc Hall Hau Htu Hatv Hav Hatd Had HP hT1
            generalize T0 ++ [ps ++ [badP]] = T2 at *
            have hcv1' : T0.length + 1 ≤ cv := by omega
            generalize T.length = tl at *
            subst hlen
            have hw3 : IntKind.i64.wrap ((T0.length : Int) + 1 - 1) = (T0.length : Int) := by rw [IntWalk.i64_in _ (by omega)]; omega
            have hl2 : (T0.length : Int) < (T0.length : Int) + 1 := by omega
            go_upto_region 21 with (at_builtin; go_loud (refine wpList_append_recs (c := slE) (w0 := wr) rfl _ _ 22 rfl 39 Tryd.underlying22 _ infoSlP rfl (Nat.zero_lt_succ 0) _ [] t rfl (World.ownsRow_lit wr #[] 0 (Nat.le_refl _) (by simp) rfl) _ rfl (Ht.out.old (o3.alloc _)) (by simp; omega) (by simp; omega) ((Old.refl wr).alloc _) ?_); intro v4 w4 hv4 ho4 hg4)
            replace hv4 : OwnS slE 39 wr w4 v4 t := hv4
            obtain ⟨am, cm, rfl, hm1, hm2⟩ := OwnS.form hv4
            obtain ⟨bm, rfl, hbm1, hbm2⟩ := OwnS.block hv4 (by omega)
            obtain ⟨x0, hx0⟩ : ∃ x0, t[T0.length]? = some x0 := ⟨_, List.getElem?_eq_getElem (by omega)⟩
            have cm0 : ∀ V, Old w4 V → V.cell? ⟨bm, T0.length, none⟩ = some (Sl.v x0) := fun V o => by
              have h := OwnS.cell (c := slE) hv4 (i := T0.length) (j := 0) hx0 rfl
              rw [show T0.length * slE.k + 0 = T0.length from by simp [slE]] at h
              exact o.cell h
            have fm0 : ∀ V, Old w4 V → V.frozen? ⟨bm, T0.length, none⟩ = false := fun V o => by
              rw [frozen_old o hbm2]
              exact OwnS.frozen (c := slE) hv4 T0.length
            rw [htl] at hv4 ⊢
            have hc4 : ∀ V, Old w4 V → V.cell? ⟨bv, ov + T0.length, none⟩ = some (.slice ap ps.length cp) := fun V o => Hc0.out V (ho4.trans o)
            have HV4 := Lib.hid hv4
            have Hx0 := Lib.hid hx0
            have Hps := Lib.hid (fun V (o : Old w4 V) => Recs.old (show Recs pcE w (.slice ap ps.length cp) ps from Hx.out) ((o3.trans ho4).trans o))
            have hlm : (T0.length : Int) < T0.length + 1 := by omega
            clear hv4 hx0 hg4 Hc0 Hx
            go_upto_region 22 with (first
              | (at_builtin; refine wpList_append_recs (c := pcE) (w0 := w4) rfl _ _ 39 rfl 41 Tryd.underlying39 _ infoPc rfl (Nat.zero_lt_succ 3) _ [] ps rfl (World.ownsRow_lit w4 #[] 0 (Nat.le_refl _) (by simp) rfl) _ rfl (Hps.out _ ((Old.refl w4).alloc _)) (by simp; omega) (by simp; omega) ((Old.refl w4).alloc _) ?_; intro v5 w5 hv5 ho5 hg5)
              | (at_builtin; go_loud (refine wpList_append_recs (c := pcE) (w0 := w4) rfl _ _ 39 rfl 41 Tryd.underlying39 _ infoPc rfl (Nat.zero_lt_succ 3) _ ps [badP] rfl (hv5.alloc _) _ rfl (Recs.oneAt (c := pcE) _ 41 badP (by simp [go_sem])) (by simp; omega) (by simp; omega) (ho5.alloc _) ?_); intro v6 w6 hv6 ho6 hg6; obtain ⟨ay, cy, rfl, hy1, hy2⟩ := OwnS.form hv6; have cm6 := cm0 w6 ho6; have fm6 := fm0 w6 ho6))
            have hyl : (ps ++ [badP]).length = ps.length + 1 := by simp
            rw [hyl] at hv6
            have oW : Old w w6 := (o3.trans ho4).trans ho6
            have hset := OwnS.stored (c := slE) (HV4.out.old ho6) (i := T0.length) (j := 0) (x := x0) (x' := (ay, (ps.length + 1), cy)) (u := .slice ay (ps.length + 1) cy) Hx0.out (by decide) rfl
            rw [show T0.length * slE.k + 0 = T0.length from by simp [slE]] at hset
            have hbn : (Value.slice ay (ps.length + 1) cy).ownBlock ≠ some bm := fun e => by
              have := (World.ownsRow.lt hv6 bm e).1
              omega
            have hy7 := (hv6.kept (grown_set w6 bm T0.length (.slice ay (ps.length + 1) cy)) (.inr hbn)).recs
            have o7 : Old w (w6.setCell ⟨bm, T0.length, none⟩ (.slice ay (ps.length + 1) cy)) := oW.setCell (p := ⟨bm, _, none⟩) (Nat.le_trans o3.size hbm1) _
            have hT2 : Topics (w6.setCell ⟨bm, T0.length, none⟩ (.slice ay (ps.length + 1) cy)) (.slice (some ⟨bm, 0, none⟩) (T0.length + 1) cm) T2 := by
              refine ⟨t.set T0.length (ay, (ps.length + 1), cy), hset.recs, ?_⟩
              rcases List.eq_nil_or_concat t with h0 | ⟨t0, xl, h0⟩
              · rw [h0] at htl; simp at htl
              · rw [List.concat_eq_append] at h0
                have hl0 : t0.length = T0.length := by rw [h0] at htl; simp at htl; exact htl
                have hb := Hbo.out
                rw [h0] at hb
                obtain ⟨hb1, _⟩ := hb.unsnoc
                have hst : (t0 ++ [xl]).set T0.length ((ay, (ps.length + 1), cy) : Sl) = t0 ++ [(ay, (ps.length + 1), cy)] := by
                  rw [← hl0, List.set_append_right _ _ (Nat.le_refl _), Nat.sub_self, List.set_cons_zero]
                rw [h0, hst]
                exact HTt.out _ t0 _ (hb1.mono fun _ _ h => Recs.old h o7) hy7
            have HT2 := Lib.hid hT2
            clear hset hy7 hT2 HV4 Hx0 Hbo HTt Ht Hps cm0 fm0 cm6 fm6 hc4 hv6 hg6 hbn
            generalize w6.setCell ⟨bm, T0.length, none⟩ (.slice ay (ps.length + 1) cy) = w7 at *
            go_wp2_with fail
            refine (HS2.out _ T2 w7 o7 HT2.out HTl.out Hlen2.out).mono ?_
            rintro e w8 ⟨⟨s4, rfl, hs4⟩, o8⟩
            obtain ⟨as4, cs4, rfl, hcs1, hcs2⟩ := Srcs.form' hs4
            have o78 := o7.trans o8
            have Hs4 := Lib.hid hs4
            clear hs4
            go_wp2_with (at_builtin; go_loud (refine wpList_append_recs (c := nmE) (w0 := w8) rfl _ _ 23 rfl 45 Tryd.underlying23 _ infoNm rfl (Nat.zero_lt_succ 5) _ [] dir rfl (World.ownsRow_lit w8 #[] 0 (Nat.le_refl _) (by simp) rfl) _ rfl (Hd.out.old (o78.alloc _)) (by simp; omega) (by simpa using hdl) ((Old.refl w8).alloc _) ?_); intro d9 w9 hd9 ho9 hg9)
            have Hd9 := Lib.hid (show Recs nmE w9 d9 dir from hd9.recs)
            have o9 := o78.trans ho9
            obtain ⟨q1, q2, q3⟩ := Hsmall.out
            refine (HR2.out _ T2 d9 w9 o9 (Hs4.out.old ho9) Hd9.out (by rw [q1]; have := HTl.out; omega) q2 q3).mono ?_
            rintro e w10 ⟨hr, o10⟩
            rw [Hbad.out] at hr
            rcases hr with ⟨l3, u, hR3, _, _⟩ | ⟨f3, u, hR3, hfc, rfl, hu⟩
            · cases hR3
            · obtain rfl : _ = f3 := by injection hR3
              dsimp only at hu hfc
              have Hu := Lib.hid hu
              obtain ⟨gx, rfl, _⟩ := hu
              have hwl : IntKind.i64.wrap (((grp cut T2).length : Int) - 1) = ((grp cut T2).length : Int) - 1 := IntWalk.i64_in _ (by omega)
              clear hR3 Hs4 Hd9 Hsmall Hbad HS2 HR2 hd9 hg9 HT2
              go_wp2_with fail
              refine (told8_err (f := ⟨80, ((grp cut T2).length : Int) - 1, 77, 5, ⟨#[255, 255]⟩⟩) Hu.out hfc).mono ?_
              rintro e w11 ⟨rfl, o11⟩
              go_wp2_with fail
              go_ret
              exact ⟨rfl, (o9.trans o10).trans o11⟩
theorem linkAll_row_walk (W : World) (hT : Tabs W) (T : List (List Pc)) (v : Value) (g : Topics W v T) (y : T.length ≤ 1048576) (u : ∀ (i : Nat) (ps : List Pc), T[i]? = some ps → ps.length ≤ 1048576) (cut : Int) (_ : -9223372036854775808 ≤ cut ∧ cut ≤ 9223372036854775807)
    (dir : List Nm) (vd : Value) (gd : Recs nmE W vd dir) (yd : dir.length ≤ 1048576) (ud : ∀ d ∈ dir, d.norm.size ≤ 9223372036854775807) :
    Calls Tryd.prog 4 #[v, .int .i64 cut, vd] W fun e w' => e = .returned (.bool true) ∧ Old W w' :=
  linkAll_any v vd T cut dir W hT g gd y u (by omega) ud
end Go.Proofs.YtkaoipegbjmlnaaDoor
