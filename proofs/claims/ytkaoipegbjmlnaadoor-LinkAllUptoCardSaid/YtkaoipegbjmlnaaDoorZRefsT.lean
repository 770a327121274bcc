/-
  SOURCES BUILT OF TOPICS: the walk.
-/
import Derived.Test.YtkaoipegbjmlnaaDoorZRefsS
namespace Go.Proofs.YtkaoipegbjmlnaaDoor
open Go.RowKit
attribute [local go_sem] Old.refl Old.alloc Old.drew Old.setCell OldW.old

theorem Recs.pc {w : World} {a : Option Addr} {n cap : Nat} {t : List Pc} (h : Recs pcE w (.slice a n cap) t) : ∃ b off, (0 < t.length → a = some ⟨b, off, none⟩) ∧ ∀ (i : Nat) (x : Pc), t[i]? = some x →
    ∀ V, Old w V → V.cell? ⟨b, off + i * 4, none⟩ = some (.int .i64 x.kind) ∧ V.cell? ⟨b, off + i * 4 + 1, none⟩ = some (.string x.name) ∧ V.cell? ⟨b, off + i * 4 + 2, none⟩ = some (.int .i64 x.line) ∧ V.cell? ⟨b, off + i * 4 + 3, none⟩ = some (.int .i64 x.col) := by
  obtain ⟨a', cap', b, off, e, _, _, h3, ht⟩ := h
  obtain ⟨rfl, _, rfl⟩ := Value.slice.inj e
  refine ⟨b, off, h3, fun i x hx V o => ?_⟩
  have h0 := ht (i * 4 + 0) _ (Enc.all_at (c := pcE) (j := 0) hx rfl) V o
  have h1 := ht (i * 4 + 1) _ (Enc.all_at (c := pcE) (j := 1) hx rfl) V o
  have h2 := ht (i * 4 + 2) _ (Enc.all_at (c := pcE) (j := 2) hx rfl) V o
  have h3 := ht (i * 4 + 3) _ (Enc.all_at (c := pcE) (j := 3) hx rfl) V o
  rw [← Nat.add_assoc] at h1 h2 h3
  exact ⟨h0, h1, h2, h3⟩
set_option maxRecDepth 100000 in
set_option maxHeartbeats 3200000 in
theorem sources_any (v : Value) (T : List (List Pc)) (cut : Int) (w : World) (hv : Topics w v T) (hT : T.length ≤ 1048577) (hP : ∀ (i : Nat) (ps : List Pc), T[i]? = some ps → ps.length ≤ 1048577) :
    Calls Tryd.prog 6 #[v, .int .i64 cut] w fun e w' => (∃ u, e = .returned u ∧ Srcs w' u (grp cut T)) ∧ Old w w' := by
  obtain ⟨a, cap, rfl, hc1, hc2⟩ := hv.form
  obtain ⟨bv, ov, ha, hat⟩ := hv.at
  have Ha := Lib.hid ha
  have Hat := Lib.hid hat
  have HP := Lib.hid hP
  clear hP hv ha hat
  go_enter Tryd.func6, Tryd.ntmps6
  go_wp2_with fail
  go_loopg [5, 6] (T.length) (fun c vo j wr => ∃ k : Nat, j = .int .i64 k ∧ c = T.length - k ∧ k ≤ T.length ∧ Old w wr ∧ ((k = 0 ∧ vo = .slice none 0 0) ∨ ∃ L0 Lx, grp cut (T.take k) = L0 ++ [Lx] ∧ St w wr k k vo L0 Lx))
  case atStart => exact ⟨0, rfl, rfl, Nat.zero_le _, Old.refl _, .inl ⟨rfl, rfl⟩⟩
  case round =>
    obtain ⟨k, rfl, rfl, hk, ho, hst⟩ := hrel
    have Hst := Lib.hid hst
    clear hst
    by_cases hlt : k < T.length
    · have hi : (k : Int) < T.length := by omega
      obtain ⟨q, hq⟩ : ∃ q, T[k]? = some q := ⟨_, List.getElem?_eq_getElem hlt⟩
      have hql := HP.out k q hq
      have Htk := Lib.hid (show grp cut (T.take (k + 1)) = addT cut (grp cut (T.take k)) q from by rw [take_at hq, grp_snoc])
      obtain ⟨⟨ax, m0, cx⟩, hx, hxc⟩ := Hat.out k q hq
      obtain ⟨_, cx', e0, hx1, hx2⟩ := Recs.form hx
      obtain ⟨rfl, rfl, rfl⟩ := Value.slice.inj e0
      obtain rfl := Ha.out (by omega)
      have Hx := Lib.hid hx
      have Hcx := Lib.hid (hxc 0 _ rfl)
      clear hx hxc e0 hq
      simp only [slE, Sl.v, Nat.mul_one, Nat.add_zero] at Hcx
      obtain ⟨i0, hi0, hz0, hz1, hz2⟩ := info_parts infoSr
      have Hnew : Hid (newB cut (grp cut (T.take k)) = true → addT cut (grp cut (T.take k)) q = grp cut (T.take k) ++ [[topOf q]]) := fun h => addT_new h q
      have Hsame : Hid (∀ L0 Lx, newB cut (grp cut (T.take k)) = false → grp cut (T.take k) = L0 ++ [Lx] → addT cut (grp cut (T.take k)) q = L0 ++ [Lx ++ [topOf q]]) := fun L0 Lx h e => by
        rw [e] at h ⊢
        exact addT_same h q
      have Hnil : Hid (k = 0 → newB cut (grp cut (T.take k)) = true) := fun h => by rw [h]; rfl
      have Hsn : Hid (∀ L0 Lx, grp cut (T.take k) = L0 ++ [Lx] → newB cut (grp cut (T.take k)) = (decide (0 < cut) && decide (cut ≤ Lx.length))) := fun L0 Lx e => by rw [e, newB_snoc]
      have Hz : Hid (k = 0 → grp cut (T.take k) = []) := fun h => by rw [h]; rfl
      generalize hG : grp cut (T.take k) = G at *
      generalize hB : newB cut G = B at *
      clear hG hB
      go_upto_region 5 with fail
      go_cut [35] (fun b wx => b = .bool B ∧ wr = wx)
      case first =>
        rcases Hst.out with ⟨hk0, rfl⟩ | ⟨L0, Lx, hg, hS⟩
        · have Hb := Lib.hid (Hnil.out hk0)
          clear hk0
          go_wp2_with fail
          go_meet
          exact ⟨by rw [Hb.out], rfl⟩
        · have Hb := Lib.hid (Hsn.out _ _ hg)
          obtain ⟨e, bo, co, init, ⟨ax, m, cx1⟩, t, rfl, hs, hx1, hlx, he, ht, hbo, h1, h2, hne, hb1, hb2⟩ := hS
          obtain rfl : m = t.length := hx1
          have c1 := OwnS.cell (c := srE) h1 (i := e) (j := 1) (x := (ax, t.length, cx1)) (by rw [← hs]; simp) rfl
          rw [hlx] at Hb
          have hw1 : IntKind.i64.wrap (((e + 1 : Nat) : Int) - 1) = e := by rw [IntWalk.i64_in _ (by omega)]; omega
          have hw2 : IntKind.i64.wrap ((e : Int) + 1 - 1) = e := by rw [IntWalk.i64_in _ (by omega)]; omega
          have hw3 : IntKind.i64.wrap (e : Int) = e := IntWalk.i64_in _ (by omega)
          have he1 : (e : Int) < e + 1 := by omega
          simp only [srE, Sl.v] at c1
          clear h1 h2 hne hb1 hb2 hs hlx
          generalize t.length = m at *
          by_cases hc0 : 0 < cut
          · have hd0 : decide (0 < cut) = true := decide_eq_true hc0
            by_cases hc3 : cut ≤ m
            · have hd1 : decide (cut ≤ m) = true := decide_eq_true hc3
              rw [hd0, hd1] at Hb
              go_wp2_with fail
              go_meet
              exact ⟨by rw [Hb.out]; rfl, rfl⟩
            · have hd1 : decide (cut ≤ m) = false := decide_eq_false hc3
              rw [hd0, hd1] at Hb
              go_wp2_with fail
              go_meet
              exact ⟨by rw [Hb.out]; rfl, rfl⟩
          · have hd0 : decide (0 < cut) = false := decide_eq_false hc0
            rw [hd0] at Hb
            go_wp2_with fail
            go_meet
            exact ⟨by rw [Hb.out]; rfl, rfl⟩
      case rest =>
        obtain ⟨rfl, rfl⟩ := hcut
        go_upto_if 35 with fail
        go_cut [5] from 36 to 39 (fun vo wx => Old w wx ∧ ∃ L0 Lx, grp cut (T.take (k + 1)) = L0 ++ [Lx ++ [topOf q]] ∧ St w wx (k + 1) k vo L0 Lx)
        case first =>
          cases B with
          | true =>
            rcases Hst.out with ⟨hk0, rfl⟩ | ⟨L0, Lx, hg, hS⟩
            · have Hk0 := Lib.hid hk0
              clear hk0
              go_wp2_with (at_builtin; go_loud (refine wpList_append_lies _ rfl _ _ 29 rfl w.heap.size 52 i0 _ 2 48 Tryd.underlying29 hi0 hz0 hz1 hz2 rfl (by omega) (.slice none 0 0) 0 [] rfl (World.ownsRow_nil _ _ _ _) ⟨wr.heap.size, 0, none⟩ 1 1 (srE.enc (none, 0, 0)) rfl rfl (World.news_of_block (cs := (srE.enc (none, 0, 0)).toArray) (t := 52) (fr := (0, 0)) (heap_alloc_new wr _)) (srE.one (none, 0, 0)) (by omega) (by simp [maxLen]) (by omega) (by have := ho.size; simp; omega) (wr.heap.size + 1) (by simp [go_sem]) ?_); intro gg cp w3 hown3 hgrow hat3 hltg)
              go_meet
              have hS : St w w3 (k + 1) k (.slice (some ⟨gg, 0, none⟩) 1 cp) [] [] := by rw [Hk0.out]; exact St.start rfl hown3
              exact ⟨(ho.alloc _).grown hgrow (fun b hb => by simp [Value.ownBlock] at hb), [], [], by rw [Htk.out, Hnew.out (by trivial), Hz.out Hk0.out]; rfl, hS⟩
            · obtain ⟨e, bo, co, init, x, t, rfl, hs, hx1, hlx, he, ht, hbo, h1, h2, hne, hb1, hb2⟩ := hS
              have h1' : wr.ownsRow w.heap.size 52 2 (.slice (some ⟨bo, 0, none⟩) (e + 1) co) (e + 1) (srE.all (init ++ [x])) := by
                have h := h1
                unfold OwnS at h
                rw [List.length_append, hs] at h
                exact h
              go_wp2_with (at_builtin; go_loud (refine wpList_append_lies _ rfl _ _ 29 rfl w.heap.size 52 i0 _ 2 48 Tryd.underlying29 hi0 hz0 hz1 hz2 rfl (by omega) (.slice (some ⟨bo, 0, none⟩) (e + 1) co) (e + 1) (srE.all (init ++ [x])) rfl (h1'.alloc _) ⟨wr.heap.size, 0, none⟩ 1 1 (srE.enc (none, 0, 0)) rfl rfl (World.news_of_block (cs := (srE.enc (none, 0, 0)).toArray) (t := 52) (fr := (0, 0)) (heap_alloc_new wr _)) (srE.one (none, 0, 0)) (by omega) (by simp [maxLen]; omega) (by omega) (by have := ho.size; simp; omega) (wr.heap.size + 1) (by simp [go_sem]) ?_); intro gg cp w3 hown3 hgrow hat3 hltg)
              go_meet
              exact ⟨(ho.alloc _).grown hgrow (fun b hb => by obtain rfl := Option.some.inj hb; exact hbo), L0 ++ [Lx], [], by rw [Htk.out, Hnew.out (by trivial), hg]; rfl, St.fresh hs he h1 h2 hne hb1 hb2 hown3 hgrow (by simpa [go_sem] using hat3)⟩
          | false =>
            rcases Hst.out with ⟨hk0, rfl⟩ | ⟨L0, Lx, hg, hS⟩
            · have h := Hnil.out hk0; cases h
            · go_wp2_with fail
              go_meet
              obtain ⟨e, bo, co, init, x, t, hv, hs, hx1, hlx, he, ht, hbo, h1, h2, hne, hb1, hb2⟩ := hS
              exact ⟨ho, L0, Lx, by rw [Htk.out, Hsame.out _ _ (by trivial) hg], e, bo, co, init, x, t, hv, hs, hx1, hlx, by omega, ht, hbo, h1, h2, hne, hb1, hb2⟩
        case rest =>
          obtain ⟨ho1, L0, Lx, hgq, hS⟩ := hcut
          have Hgq := Lib.hid hgq
          have HS := Lib.hid hS
          obtain ⟨bp, op, hap, hatp⟩ := Hx.out.pc
          have Hap := Lib.hid hap
          have Hatp := Lib.hid hatp
          clear Hst Hnew Hsame Hnil Hsn Hz Htk hgq hS hap hatp ho
          rename_i wc uo _
          generalize wr = wold at *
          go_wp2_with fail
          have hold1 : Old w (wc.alloc (.cells #[.int .i64 1, .int .i64 0, .string ⟨#[]⟩, .slice none 0 0, .slice none 0 0, .int .i64 0] 62)) := ho1.alloc _
          have hsz : wc.heap.size < (wc.alloc (.cells #[.int .i64 1, .int .i64 0, .string ⟨#[]⟩, .slice none 0 0, .slice none 0 0, .int .i64 0] 62)).heap.size := by simp [go_sem]
          have hog : Old wc (wc.alloc (.cells #[.int .i64 1, .int .i64 0, .string ⟨#[]⟩, .slice none 0 0, .slice none 0 0, .int .i64 0] 62)) := (Old.refl wc).alloc _
          have hcs : ∀ j u, (blE.enc (1, (none, 0, 0)))[j]? = some u → (wc.alloc (.cells #[.int .i64 1, .int .i64 0, .string ⟨#[]⟩, .slice none 0 0, .slice none 0 0, .int .i64 0] 62)).cell? ⟨wc.heap.size, j, none⟩ = some u := fun j u hu => by simp [go_sem]; simpa [blE, Sl.v] using hu
          have hf1 : ∀ j, (wc.alloc (.cells #[.int .i64 1, .int .i64 0, .string ⟨#[]⟩, .slice none 0 0, .slice none 0 0, .int .i64 0] 62)).frozen? ⟨wc.heap.size, j, none⟩ = false := fun j => by simp [go_sem]
          have Hg := Lib.hid (show w.heap.size ≤ wc.heap.size from ho1.size)
          generalize wc.alloc (.cells #[.int .i64 1, .int .i64 0, .string ⟨#[]⟩, .slice none 0 0, .slice none 0 0, .int .i64 0] 62) = wb at *
          generalize hgs : wc.heap.size = g at *
          have Hgs := Lib.hid hgs
          clear hgs
          go_loopw [8] (fun j wr => ∃ (m : Nat) (x : Sl), m ≤ q.length ∧ j = .int .i64 m ∧ x.2.1 = m ∧ (∀ j u, (blE.enc (1, x))[j]? = some u → wr.cell? ⟨g, j, none⟩ = some u) ∧ (∀ j, wr.frozen? ⟨g, j, none⟩ = false) ∧ OwnS inE 65 wb wr x.v (q.take m) ∧ OldBut g wb wr) (fun j _ => q.length - (intOf j).toNat)
          case atStart => exact ⟨0, (none, 0, 0), Nat.zero_le _, rfl, rfl, hcs, hf1, OwnS.nil _ _ _ _, OldBut.refl _ _⟩
          case round =>
            obtain ⟨m, ⟨ax, mm, cpx⟩, hm, rfl, hmm, hcs, fz, hown, hob⟩ := hrel
            obtain rfl : mm = m := hmm
            have hw : Old w wr := hob.base hold1 Hg.out
            have hcu : ∀ V, Old wr V → V.cell? ⟨bv, ov + k, none⟩ = some (.slice _ q.length cx) := fun V o => Hcx.out V (hw.trans o)
            have Hcs := Lib.hid hcs
            by_cases hlt' : mm < q.length
            · have hm1 : (mm : Int) < q.length := by omega
              obtain ⟨p, hp⟩ : ∃ p, q[mm]? = some p := ⟨_, List.getElem?_eq_getElem hlt'⟩
              have Kp := Hatp.out mm p hp
              obtain rfl := Hap.out (by omega)
              have k0 : ∀ V, Old wr V → V.cell? ⟨bp, op + mm * 4, none⟩ = some (.int .i64 p.kind) := fun V o => (Kp V (hw.trans o)).1
              have k1 : ∀ V, Old wr V → V.cell? ⟨bp, op + mm * 4 + 1, none⟩ = some (.string p.name) := fun V o => (Kp V (hw.trans o)).2.1
              have k2 : ∀ V, Old wr V → V.cell? ⟨bp, op + mm * 4 + 2, none⟩ = some (.int .i64 p.line) := fun V o => (Kp V (hw.trans o)).2.2.1
              have k3 : ∀ V, Old wr V → V.cell? ⟨bp, op + mm * 4 + 3, none⟩ = some (.int .i64 p.col) := fun V o => (Kp V (hw.trans o)).2.2.2
              have c4 : wr.cell? ⟨g, 4, none⟩ = some (.slice ax mm cpx) := hcs 4 _ rfl
              have hlq : (q.take mm).length = mm := by rw [List.length_take]; omega
              have hown' : wr.ownsRow wb.heap.size 65 5 (.slice ax mm cpx) mm (inE.all (q.take mm)) := by
                have h := hown
                unfold OwnS at h
                rw [hlq] at h
                exact h
              have Hlq := Lib.hid hlq
              have Htk := Lib.hid (take_at hp)
              obtain ⟨j0, hj0, hy0, hy1, hy2⟩ := info_parts infoIn
              have hgw : g < wr.heap.size := World.block_lt_of_cell? wr _ c4
              have c4' : ∀ V, Old wr V → V.cell? ⟨g, 4, none⟩ = some (.slice ax mm cpx) := fun V o => o.cell c4
              have oa : Old wr ((wr.alloc (.cells #[.int .i64 p.kind, .string p.name, .int .i64 p.line, .int .i64 p.col] 41)).alloc (.cells #[.int .i64 p.kind, .string ⟨#[]⟩, .string p.name, .int .i64 p.line, .int .i64 p.col] 65)) := ((Old.refl wr).alloc _).alloc _
              clear hown hcs hlq hp Kp
              go_wp2_with (at_builtin; go_loud (refine wpList_append_lies _ rfl _ _ 60 rfl wb.heap.size 65 j0 _ 5 56 Tryd.underlying60 hj0 hy0 hy1 hy2 rfl (by omega) (.slice ax mm cpx) mm (inE.all (q.take mm)) rfl ((hown'.alloc _).alloc _) ⟨wr.heap.size + 1, 0, none⟩ 1 1 (inE.enc p) rfl rfl (fun j u hu => by rw [Addr.add_lit, Nat.zero_add]; simp [go_sem]; simpa [inE] using hu) (inE.one p) (by omega) (by simp [maxLen]; omega) (by omega) (by have := hob.size; simp; omega) (wr.heap.size + 2) (by simp [go_sem]) ?_); intro gg cap1 w1 hown1 hgrow hat1 hltg; obtain ⟨d1, d2, r1, r2, r3, r4, r5⟩ := put_at hob hsz c4 fz hown' oa hgrow hown1)
              go_roundw
              case rel =>
                refine ⟨mm + 1, (some ⟨gg, 0, none⟩, mm + 1, cap1), by omega, by go_num, rfl, fun j u hu => ?_, r3, ?_, r5⟩
                · by_cases hj : j = 4
                  · subst hj
                    obtain rfl := Option.some.inj hu
                    exact r1
                  · refine r2 j u hj (Hcs.out j u ?_)
                    match j, hj, hu with
                    | 0, _, hu => exact hu
                    | 1, _, hu => exact hu
                    | 2, _, hu => exact hu
                    | 3, _, hu => exact hu
                    | 5, _, hu => exact hu
                    | j + 6, _, hu => exact hu
                · unfold OwnS
                  rw [Htk.out, Enc.all_append, Enc.all_one, List.length_append, Hlq.out]
                  exact r4
              case measure => simp [intOf]; omega
            · obtain rfl : mm = q.length := by omega
              obtain ⟨e, bo, co, init, ⟨axx, m2, cxx⟩, t, rfl, hs, hx1, hlx, he, ht, hbo, h1, h2, hne, hb1, hb2⟩ := HS.out
              obtain rfl : m2 = t.length := hx1
              have hcr : Old wc wr := hob.base hog (Nat.le_of_eq Hgs.out)
              have hxq : OwnS inE 65 wb wr (Sl.v (ax, q.length, cpx)) q := by rw [List.take_length] at hown; exact hown
              have hbw : bo < wc.heap.size := (World.ownsRow.lt h1 bo rfl).2
              have hFlt : ∀ b, Fs bo (axx, t.length, cxx) b → b < wc.heap.size := fun b hF => by
                rcases hF with rfl | hF
                · exact hbw
                · exact (World.ownsRow.lt h2 b hF).2
              have htx : RecsF inE (Fs bo (axx, t.length, cxx)) wr (Sl.v (ax, q.length, cpx)) q := RecsF.of_own hxq (fun b _ hb _ hF => by have h3 := hFlt b hF; have h4 := hog.size; omega)
              have h1r := h1.old hcr
              have h2r := h2.old hcr
              have hb1r : Both (SrcF (Fs bo (axx, t.length, cxx)) wr) init L0 := hb1.mono fun _ _ h => h.kept (KeptF.old hcr) (fun _ _ h => h)
              have hb2r : Both (TopF (Fs bo (axx, t.length, cxx)) wr) t Lx := hb2.mono fun _ _ h => h.kept (KeptF.old hcr) (fun _ _ h => h)
              have c1 : wr.cell? ⟨bo, e * 2 + 1, none⟩ = some (.slice axx t.length cxx) := OwnS.cell (c := srE) h1r (i := e) (j := 1) (x := (axx, t.length, cxx)) (by rw [← hs]; simp) rfl
              have C1 := Lib.hid c1
              have hw1 : IntKind.i64.wrap (((e + 1 : Nat) : Int) - 1) = e := by rw [IntWalk.i64_in _ (by omega)]; omega
              have hw2 : IntKind.i64.wrap ((e : Int) + 1 - 1) = e := by rw [IntWalk.i64_in _ (by omega)]; omega
              have hw3 : IntKind.i64.wrap (e : Int) = e := IntWalk.i64_in _ (by omega)
              have he1 : (e : Int) < e + 1 := by omega
              have h2' : wr.ownsRow w.heap.size 57 8 (.slice axx t.length cxx) t.length (tpE.all t) := h2r
              obtain ⟨i1, hi1, hq0, hq1, hq2⟩ := info_parts infoTp
              have Hs := Lib.hid hs
              have H1 := Lib.hid h1r
              have H2 := Lib.hid h2r
              have H3 := Lib.hid hb1r
              have H4 := Lib.hid hb2r
              have H5 := Lib.hid htx
              have hsw := hw.size
              clear hown hcs h1 h2 hb1 hb2 c1 hxq hFlt hs h1r h2r hb1r hb2r htx
              go_wp2_with fail
              have cb : ∀ V, Old wr V → V.cell? ⟨bo, e * 2 + 1, none⟩ = some (.slice axx t.length cxx) := fun V o => o.cell C1.out
              have g0 : ∀ V, Old wr V → V.cell? ⟨g, 0, none⟩ = some (.int .i64 1) := fun V o => o.cell (Hcs.out 0 _ rfl)
              have g1 : ∀ V, Old wr V → V.cell? ⟨g, 1, none⟩ = some (.int .i64 0) := fun V o => o.cell (Hcs.out 1 _ rfl)
              have g2 : ∀ V, Old wr V → V.cell? ⟨g, 2, none⟩ = some (.string ⟨#[]⟩) := fun V o => o.cell (Hcs.out 2 _ rfl)
              have g3 : ∀ V, Old wr V → V.cell? ⟨g, 3, none⟩ = some (.slice none 0 0) := fun V o => o.cell (Hcs.out 3 _ rfl)
              have g4 : ∀ V, Old wr V → V.cell? ⟨g, 4, none⟩ = some (.slice ax q.length cpx) := fun V o => o.cell (Hcs.out 4 _ rfl)
              have g5 : ∀ V, Old wr V → V.cell? ⟨g, 5, none⟩ = some (.int .i64 0) := fun V o => o.cell (Hcs.out 5 _ rfl)
              have cb2 : ∀ A B, ((wr.alloc A).alloc B).cell? ⟨bo, e * 2 + 1, none⟩ = some (.slice axx t.length cxx) := fun A B => cb _ (((Old.refl wr).alloc A).alloc B)
              go_region_law
                ((refine step_append_lies _ (by rfl) _ _ _ (by rfl) w.heap.size 57 i1 _ 8 128 Tryd.underlying50 hi1 hq0 hq1 hq2 rfl (by omega) _ t.length (tpE.all t) (by rfl) (((h2'.alloc _).alloc _).drew)
                    ⟨wr.heap.size + 1, 0, none⟩ 1 1 (tpE.enc (some ⟨wr.heap.size, 0, none⟩, 2, 2)) (by rfl) (by rfl) (fun j u hu => by rw [Addr.add_lit, Nat.zero_add]; simp [go_sem]; simpa [tpE, Sl.v] using hu) (tpE.one _)
                    (by omega) (by simp [maxLen]; omega) (by omega) (by simp; omega) (wr.heap.size + 2) (by simp [go_sem]) ?_; intro gg cap1 w1 hown1 hgrow hat1 hltg; obtain ⟨d1, d2, r1, r2⟩ := St.put Hs.out rfl hlx he ht H1.out H2.out hne H3.out H4.out ((((Old.refl wr).alloc _).alloc _).drew) (by simp [go_sem]) rfl (xs := (ax, q.length, cpx)) (fun j u hu => by simp [go_sem]; simpa [blE, Sl.v, Enc.all] using hu) H5.out hown1 hgrow hat1 hw))
              all_goals go_wp2_with fail
              all_goals go_roundg (T.length - (k + 1))
              all_goals first
                | exact ⟨k + 1, by go_num, rfl, by omega, r1, .inr ⟨L0, Lx ++ [topOf q], Hgq.out, r2⟩⟩
                | omega
    · have hkT : k = T.length := by omega
      subst hkT
      have hi : ¬ (T.length : Int) < T.length := by omega
      go_wp2_with fail
      go_ret
      refine ⟨⟨_, rfl, ?_⟩, ho⟩
      rcases Hst.out with ⟨hk0, rfl⟩ | ⟨L0, Lx, hg, hS⟩
      · obtain rfl : T = [] := List.eq_nil_of_length_eq_zero hk0
        exact Seqs.nil _ _ _
      · rw [List.take_length] at hg
        rw [hg]
        obtain ⟨e, bo, co, init, x, t, rfl, hs, hx1, hlx, he, ht, hbo, h1, h2, hne, hb1, hb2⟩ := hS
        exact ⟨_, h1.recs, Both.snoc (hb1.mono fun _ _ h => h.read) ⟨t, h2.recs, hb2.mono fun _ _ h => h.read⟩⟩
end Go.Proofs.YtkaoipegbjmlnaaDoor
