/-
  TOC, TREES: the walk of the statement.
-/
import Derived.Test.YtigpjfebnppejaaTocApart
import Derived.Test.YtigpjfebnppejaaOpenQ
import Derived.Deep.RegionHeld3
import Derived.Deep.AppendLies
import Derived.Deep.RegionLaw
import Derived.Deep.DeepCutAuto
namespace Go.Proofs.Ytigpjfebnppejaa
open Go.RowKit
attribute [local go_sem] Old.refl Old.alloc Old.drew Old.setCell OldW.old

theorem infoTop : (Try.prog.info? 58).map (fun i => (i.zero, i.size, i.bytes)) = some (some (.agg #[.int .i64 0, .string ⟨#[]⟩, .string ⟨#[]⟩, .int .i64 0, .slice none 0 0, .slice none 0 0, .slice none 0 0, .int .i64 0]), 8, 128) := by kernel_rfl
theorem infoSrc : (Try.prog.info? 53).map (fun i => (i.zero, i.size, i.bytes)) = some (some (.agg #[.slice none 0 0, .slice none 0 0]), 2, 48) := by kernel_rfl
theorem OldBut.grown {g : Nat} {w a b : World} {row : Option Nat} (h : OldBut g w a) (hg : a.grownBy b row) (hr : ∀ k, row = some k → w.heap.size ≤ k) : OldBut g w b := by
  refine ⟨hg.os.trans h.os, hg.tape.trans h.tape, hg.output.trans h.output, Nat.le_trans h.size hg.size, fun k hk hb => ?_⟩
  rw [hg.block k (Nat.lt_of_lt_of_le hk h.size) (fun e => by have := hr k e.symm; omega)]
  exact h.block k hk hb
/-- a topic appended to the slice that cell 1 of the block g holds -/
theorem put_topic {wb wr w1 : World} {g m cpx gg cap k : Nat} {E : TypeId} {ax : Option Addr} {o : Obj} {xs ys : List Value} (hob : OldBut g wb wr) (hgb : g < wb.heap.size) (cx : wr.cell? ⟨g, 1, none⟩ = some (.slice ax m cpx)) (c0 : wr.cell? ⟨g, 0, none⟩ = some (.slice none 0 0))
    (fz : ∀ j, wr.frozen? ⟨g, j, none⟩ = false) (hown' : wr.ownsRow wb.heap.size E k (.slice ax m cpx) m xs) (hgrow : ((wr.alloc o).drew).grownBy w1 (Value.slice ax m cpx).ownBlock) (hown1 : w1.ownsRow wb.heap.size E k (.slice (some ⟨gg, 0, none⟩) (m + 1) cap) (m + 1) ys) :
    w1.cell? ⟨g, 1, none⟩ = some (.slice ax m cpx) ∧ w1.frozen? ⟨g, 1, none⟩ = false ∧ (w1.setCell ⟨g, 1, none⟩ (.slice (some ⟨gg, 0, none⟩) (m + 1) cap)).cell? ⟨g, 1, none⟩ = some (.slice (some ⟨gg, 0, none⟩) (m + 1) cap) ∧
      (w1.setCell ⟨g, 1, none⟩ (.slice (some ⟨gg, 0, none⟩) (m + 1) cap)).cell? ⟨g, 0, none⟩ = some (.slice none 0 0) ∧ (∀ j, (w1.setCell ⟨g, 1, none⟩ (.slice (some ⟨gg, 0, none⟩) (m + 1) cap)).frozen? ⟨g, j, none⟩ = false) ∧
      (w1.setCell ⟨g, 1, none⟩ (.slice (some ⟨gg, 0, none⟩) (m + 1) cap)).ownsRow wb.heap.size E k (.slice (some ⟨gg, 0, none⟩) (m + 1) cap) (m + 1) ys ∧ OldBut g wb (w1.setCell ⟨g, 1, none⟩ (.slice (some ⟨gg, 0, none⟩) (m + 1) cap)) := by
  have hgw : g < wr.heap.size := World.block_lt_of_cell? wr _ cx
  have hne : some g ≠ (Value.slice ax m cpx).ownBlock := fun e => by
    have := (World.ownsRow.lt hown' g e.symm).1
    omega
  have hlt2 : g < ((wr.alloc o).drew).heap.size := by simp [go_sem]; omega
  have oa := ((Old.refl wr).alloc o).drew
  have d1 : w1.cell? ⟨g, 1, none⟩ = some (.slice ax m cpx) := by rw [hgrow.cell_far ⟨g, 1, none⟩ hlt2 hne]; exact oa.cell cx
  have d0 : w1.cell? ⟨g, 0, none⟩ = some (.slice none 0 0) := by rw [hgrow.cell_far ⟨g, 0, none⟩ hlt2 hne]; exact oa.cell c0
  have df : ∀ j, w1.frozen? ⟨g, j, none⟩ = false := fun j => by rw [hgrow.frozen_far ⟨g, j, none⟩ hlt2 hne, frozen_old oa hgw]; exact fz j
  have ho1 : OldBut g wb w1 := (((hob.alloc o).drew)).grown hgrow (fun q hq => (World.ownsRow.lt hown' q hq).1)
  have hgg : g ≠ gg := fun e => by
    have := (World.ownsRow.lt hown1 gg rfl).1
    omega
  refine ⟨d1, df 1, by simp [go_sem, d1], ?_, fun j => ?_, ?_, ho1.setCell _ _⟩
  · simp [go_sem, d0]
  · simp [go_sem]; exact df j
  · obtain ⟨h1, h2⟩ := hown1
    refine ⟨h1, ?_⟩
    rcases h2 with h2 | ⟨g', cap', cur, e', hb, hc, r⟩
    · exact .inl h2
    · refine .inr ⟨g', cap', cur, e', hb, ?_, r⟩
      have hne' : g' ≠ g := fun e => by omega
      rw [((OldBut.refl g w1).setCell 1 _).block g' (Array.getElem?_eq_some_iff.1 hc).1 hne']
      exact hc
set_option maxRecDepth 100000 in
set_option maxHeartbeats 3200000 in
theorem tocTrees_row_walk (W : World) (LL : List (List Int)) (v0 : Value) (hL : Lists .i64 W v0 LL) (yL : LL.length ≤ 1048576) (yL' : ∀ i, (LL.getD i []).length ≤ 1048576)
    (line : Int) (name : ByteArray) :
    Calls Try.prog 8 #[v0, .int .i64 line, .string name] W fun e w' => e = .returned (.bool true) ∧ Old W w' := by
  obtain ⟨a, cap, bk, off, rfl, L1, L2, aL, hL0⟩ := hL
  have HL := Lib.hid hL0
  have AL := Lib.hid aL
  have Hy := Lib.hid yL'
  clear hL0 aL yL'
  go_enter Try.func8, Try.ntmps8
  go_wp2_with fail
  go_loopw [7, 8] (fun o j wr => ∃ (k : Nat) (ts : List Sl), k ≤ LL.length ∧ j = .int .i64 k ∧ OwnS encSrc 53 W wr o ts ∧ WithinF name line (fun b => o.ownBlock = some b) wr ts (LL.take k) ∧ Old W wr) (fun _ j _ => LL.length - (intOf j).toNat)
  case atStart => exact ⟨0, [], Nat.zero_le _, rfl, OwnS.nil _ _ _ _, ⟨by simp, by simp⟩, Old.refl _⟩
  case round =>
    obtain ⟨k, ts, hk, rfl, hown, hin, hold⟩ := hrel
    have Hown := Lib.hid hown
    have Hin := Lib.hid hin
    clear hown hin
    obtain ⟨ao, co, rfl, _, _⟩ := ownsRow_form Hown.out
    by_cases hlt : k < LL.length
    · have hk1 : (k : Int) < LL.length := by omega
      obtain ⟨u, hcu, hq⟩ := HL.out k hlt
      have hyq := Hy.out k
      obtain rfl := AL.out (by omega)
      have Hq := Lib.hid hq
      have Hcu := Lib.hid hcu
      clear hq hcu
      generalize hqe : LL.getD k [] = q at *
      have Hqe := Lib.hid hqe
      clear hqe
      obtain ⟨aq, cq, rfl, _, _⟩ := Hq.out.form
      go_wp2_with fail
      have hold1 : Old W (wr.alloc (.cells #[.slice none 0 0, .slice none 0 0] 53)) := hold.alloc _
      have hsz : wr.heap.size < (wr.alloc (.cells #[.slice none 0 0, .slice none 0 0] 53)).heap.size := by simp [go_sem]
      have hog : Old wr (wr.alloc (.cells #[.slice none 0 0, .slice none 0 0] 53)) := (Old.refl wr).alloc _
      have hc0 : (wr.alloc (.cells #[.slice none 0 0, .slice none 0 0] 53)).cell? ⟨wr.heap.size, 0, none⟩ = some (.slice none 0 0) := by simp [go_sem]
      have hc1 : (wr.alloc (.cells #[.slice none 0 0, .slice none 0 0] 53)).cell? ⟨wr.heap.size, 1, none⟩ = some (.slice none 0 0) := by simp [go_sem]
      have hf1 : ∀ j, (wr.alloc (.cells #[.slice none 0 0, .slice none 0 0] 53)).frozen? ⟨wr.heap.size, j, none⟩ = false := fun j => by simp [go_sem]
      have Hg := Lib.hid (show W.heap.size ≤ wr.heap.size from hold.size)
      generalize wr.alloc (.cells #[.slice none 0 0, .slice none 0 0] 53) = wb at *
      generalize hgs : wr.heap.size = g at *
      have Hgs := Lib.hid hgs
      clear hgs
      generalize wr = wc at *
      go_loopw [10] (fun j wr => ∃ (m : Nat) (x : Value), m ≤ q.length ∧ j = .int .i64 m ∧ wr.cell? ⟨g, 1, none⟩ = some x ∧ wr.cell? ⟨g, 0, none⟩ = some (.slice none 0 0) ∧ (∀ j, wr.frozen? ⟨g, j, none⟩ = false) ∧ OwnS (encTop name line) 58 wb wr x (q.take m) ∧ OldBut g wb wr) (fun j _ => q.length - (intOf j).toNat)
      case atStart => exact ⟨0, _, Nat.zero_le _, rfl, hc1, hc0, hf1, OwnS.nil _ _ _ _, OldBut.refl _ _⟩
      case round =>
        obtain ⟨m, x, hm, rfl, cx, c0, fz, hown, hob⟩ := hrel
        have hw : Old W wr := hob.base hold1 Hg.out
        have hcu : ∀ V, Old wr V → V.cell? ⟨bk, off + k, none⟩ = some (.slice aq q.length cq) := fun V o => Hcu.out V (hw.trans o)
        by_cases hlt' : m < q.length
        · have hm1 : (m : Int) < q.length := by omega
          obtain ⟨ax, cpx, rfl, _, _⟩ := ownsRow_form hown
          obtain ⟨_, _, bq, oq, e0, q1, q2, qa, qt⟩ := Hq.out
          obtain ⟨rfl, _, rfl⟩ := Value.slice.inj e0
          obtain rfl := qa (by omega)
          have hqt := qt m hlt'
          have hqw : ∀ V, Old wr V → V.cell? ⟨bq, oq + m, none⟩ = some (.int .i64 (ix q m)) := fun V o => hqt V (hw.trans o)
          have hlq : (q.take m).length = m := by rw [List.length_take]; omega
          have hown' : wr.ownsRow wb.heap.size 58 8 (.slice ax m cpx) m ((encTop name line).all (q.take m)) := by
            have h := hown
            unfold OwnS at h
            rw [hlq] at h
            exact h
          rw [hlq] at cx
          have Hown := Lib.hid hown
          have Hqt := Lib.hid hqw
          have Hcu2 := Lib.hid hcu
          obtain ⟨i0, hi0, hz0, hz1, hz2⟩ := info_parts infoTop
          have qw0 : wr.drew.cell? ⟨bq, oq + m, none⟩ = some (.int .i64 (ix q m)) := hqw _ (Old.refl _).drew
          have cu0 := hcu wr (Old.refl _)
          have Hqt0 := Lib.hid hqt
          have KS : ∀ V, Old wr V → V.cell? ⟨bk, off + k, none⟩ = some (.slice (some ⟨bq, oq, none⟩) q.length cq) ∧ V.cell? ⟨bq, oq + m, none⟩ = some (.int .i64 (ix q m)) ∧ V.cell? ⟨g, 1, none⟩ = some (.slice ax m cpx) ∧ V.frozen? ⟨g, 1, none⟩ = false :=
            fun V o => ⟨hcu V o, hqw V o, o.cell cx, by rw [frozen_old o (World.block_lt_of_cell? wr _ cx)]; exact fz 1⟩
          have hgw : g < wr.heap.size := World.block_lt_of_cell? wr _ cx
          have Hlq := Lib.hid hlq
          have Htk := Lib.hid (show q.take (m + 1) = q.take m ++ [ix q m] from by rw [List.take_succ_eq_append_getElem hlt']; simp [ix, List.getD, List.getElem?_eq_getElem hlt'])
          clear hown hqw hcu hqt hlq
          go_wp2_with fail
          have K1 : ∀ V, Old wr V → V.cell? ⟨bk, off + k, none⟩ = some (.slice (some ⟨bq, oq, none⟩) q.length cq) := fun V o => (KS V o).1
          have K2 : ∀ V, Old wr V → V.cell? ⟨bq, oq + m, none⟩ = some (.int .i64 (ix q m)) := fun V o => (KS V o).2.1
          have K3 : ∀ V, Old wr V → V.cell? ⟨g, 1, none⟩ = some (.slice ax m cpx) := fun V o => (KS V o).2.2.1
          go_region_law
            ((refine step_append_lies _ (by rfl) _ _ _ (by rfl) wb.heap.size 58 i0 _ 8 128 Try.underlying51 hi0 hz0 hz1 hz2 rfl (by omega) _ m ((encTop name line).all (q.take m)) (by rfl) ((hown'.alloc _).drew)
                  ⟨wr.heap.size, 0, none⟩ 1 1 (topC name line (ix q m)) (by rfl) (by rfl) (World.news_of_block (cs := (topC name line (ix q m)).toArray) (t := 58) (fr := (0, 0)) (heap_alloc_new wr _)) ((encTop name line).one (ix q m))
                  (by omega) (by simp [maxLen]; omega) (by omega) (by have := hob.size; simp; omega) (wr.heap.size + 1) (by simp) ?_; intro gg cap w1 hown1 hgrow hat hlt; obtain ⟨k3, k4, r1, r2, r3, r4, r5⟩ := put_topic hob hsz cx c0 fz hown' hgrow hown1))
          all_goals go_wp2_with fail
          all_goals go_roundw
          all_goals first
            | exact ⟨m + 1, _, by omega, by go_num, r1, r2, r3, by
                unfold OwnS
                rw [Htk.out, Enc.all_append, Enc.all_one, List.length_append, Hlq.out]
                exact r4, r5⟩
            | (simp [intOf]; omega)
        · obtain rfl : m = q.length := by omega
          have hxq : OwnS (encTop name line) 58 wb wr x q := by rw [List.take_length] at hown; exact hown
          clear hown hlt' hm
          obtain ⟨ax, cpx, rfl, _, _⟩ := ownsRow_form hxq
          obtain ⟨i0, hi0, hz0, hz1, hz2⟩ := info_parts infoSrc
          have hlt3 : ∀ b, (Value.slice ao ts.length co).ownBlock = some b → b < g := fun b hb => by
            have := (World.ownsRow.lt Hown.out b hb).2
            rw [Hgs.out] at this
            exact this
          have hoc : OldBut g wc wr := KeptBut.trans (KeptBut.of_old hog (Nat.le_refl _)) (show KeptBut wc.heap.size g wb wr from ⟨hob.os, hob.tape, hob.output, hob.size, fun k hk hb => hob.block k (Nat.lt_of_lt_of_le hk hog.size) hb⟩)
          have hownr : wr.ownsRow W.heap.size 53 2 (.slice ao ts.length co) ts.length (encSrc.all ts) :=
            OwnS.but Hown.out hoc (fun y hy => by
              subst hy
              have h1 := Hown.out
              obtain ⟨_, h2⟩ := h1
              rcases h2 with ⟨h2, _⟩ | ⟨g', cap', cur, e', hb', hc', _⟩
              · cases h2
              · obtain ⟨e1, _, _⟩ := Value.slice.inj e'
                obtain rfl := Option.some.inj e1
                have := (Array.getElem?_eq_some_iff.1 hc').1
                rw [Hgs.out] at this
                exact Nat.ne_of_lt this)
          have hinr : WithinF name line (fun b => (Value.slice ao ts.length co).ownBlock = some b) wr ts (LL.take k) := Hin.out.kept (fun b hb hF => ⟨hoc.block b hb (by rw [Hgs.out] at hb; exact Nat.ne_of_lt hb), hF⟩)
          have hnew : RecsF (encTop name line) (fun b => (Value.slice ao ts.length co).ownBlock = some b) wr (.slice ax q.length cpx) q := RecsF.of_own hxq (fun b h1 _ h2 => by have := hlt3 b h2; omega)
          have hkt : ts.length ≤ 1048576 := by have := Hin.out.1; rw [List.length_take] at this; omega
          have Hsn := Lib.hid (WithinF.snoc hinr hlt (x := (ax, q.length, cpx)) (by rw [Hqe.out]; exact hnew))
          clear hnew hinr hxq
          go_wp2_with (at_builtin; go_loud (refine wpList_append_lies _ rfl _ _ 49 rfl W.heap.size 53 i0 _ 2 48 Try.underlying49 hi0 hz0 hz1 hz2 rfl (by omega) (.slice ao ts.length co) ts.length (encSrc.all ts) rfl (hownr.alloc _) ⟨wr.heap.size, 0, none⟩ 1 1 (srcC (ax, q.length, cpx)) rfl rfl (World.news_of_block (cs := (srcC (ax, q.length, cpx)).toArray) (t := 53) (fr := (0, 0)) (heap_alloc_new wr _)) (encSrc.one (ax, q.length, cpx)) (by omega) (by simp [maxLen]; omega) (by omega) (by have := hw.size; simp; omega) (wr.heap.size + 1) (by simp [go_sem]) ?_); intro gg cp w3 hown3 hgrow hat hltg)
          go_roundw
          case rel =>
            refine ⟨k + 1, ts ++ [(ax, q.length, cpx)], by omega, by go_num, ?_, ?_, (hw.alloc _).grown hgrow (fun b hb => (World.ownsRow.lt hownr b hb).1)⟩
            · unfold OwnS
              rw [Enc.all_append, Enc.all_one, List.length_append]
              exact hown3
            · refine (Hsn.out.kept (F' := fun b => (Value.slice ao ts.length co).ownBlock = some b) (W := wr.alloc _) (fun b hb hF => ⟨((Old.refl wr).alloc _).block b hb, hF⟩)).kept (fun b hb hF => ⟨hgrow.block b hb (fun e => hF e.symm), fun e => ?_⟩)
              have hgb : gg = b := by simpa [Value.ownBlock] using e
              rcases hat with hat | hat
              · exact hF (by rw [hat, hgb])
              · simp [go_sem] at hb; omega
          case measure => simp [intOf]; omega
    · obtain rfl : k = LL.length := by omega
      have hS : Srcs name line wr (.slice ao ts.length co) LL := by
        have h := Hin.out.within
        rw [List.take_length] at h
        exact ⟨ts, Hown.out.recs, h⟩
      have htl : ts.length = LL.length := by have := Hin.out.1; rw [List.take_length] at this; exact this
      have HS := Lib.hid hS
      clear hS hlt hk Hin Hown
      rw [htl] at HS
      rw [htl]
      clear htl
      by_cases htot : 1000 < totL LL LL.length
      · have HA := Lib.hid (Tree_long HS.out Hy.out htot)
        have HB := Lib.hid (fun V (o : Old wr V) => RTree_long (HS.out.old o) Hy.out yL htot)
        clear htot
        go_wp2_with fail
        refine HA.out.mono ?_
        rintro e w2 ⟨⟨u, rfl, hu⟩, ho2⟩
        go_wp2_with fail
        refine (HB.out _ ho2).mono ?_
        rintro e w3 ⟨rfl, ho3⟩
        unfold wrongV
        go_wp2_with fail
        refine (entries_same [] _ _ _ (Prs.nil _) (Prs.nil _)).mono ?_
        rintro e w4 ⟨rfl, ho4⟩
        have c0 := ho4.cell (p := ⟨w3.heap.size, 0, none⟩) (v := .int .i64 2) (by simp [go_sem])
        have c1 := ho4.cell (p := ⟨w3.heap.size, 1, none⟩) (v := .int .i64 0) (by simp [go_sem])
        have c2 := ho4.cell (p := ⟨w3.heap.size, 2, none⟩) (v := .int .i64 0) (by simp [go_sem])
        have c3 := ho4.cell (p := ⟨w3.heap.size, 3, none⟩) (v := .int .i64 0) (by simp [go_sem])
        have c4 := ho4.cell (p := ⟨w3.heap.size, 4, none⟩) (v := .string ⟨#[]⟩) (by simp [go_sem])
        go_wp2_with fail
        refine (told_err (f := ⟨2, 0, 0, 0, ⟨#[]⟩⟩) (hu.old ((ho3.alloc _).trans ho4)) (by decide)).mono ?_
        rintro e w5 ⟨rfl, ho5⟩
        go_wp2_with fail
        refine (awake_any _).mono ?_
        rintro e w6 ⟨rfl, ho6⟩
        go_wp2_with fail
        go_ret
        exact ⟨rfl, ((((hold.trans ho2).trans ho3).alloc _).trans ho4).trans (ho5.trans ho6)⟩
      · have HA := Lib.hid (Tree_fits HS.out Hy.out (by omega))
        have HB := Lib.hid (fun V (o : Old wr V) => RTree_fits (HS.out.old o) Hy.out (by omega))
        clear htot
        generalize hA : (treeAll LL 0 0 []).1 = A at *
        generalize hT : (treeAll LL 0 0 []).2 = T at *
        clear hA hT
        go_wp2_with fail
        refine HA.out.mono ?_
        rintro e w2 ⟨⟨hA, u, rfl, hu⟩ | ⟨hA, u, rfl, hu⟩, ho2⟩
        · go_wp2_with fail
          refine (HB.out _ ho2).mono ?_
          rintro e w3 ⟨⟨_, rfl⟩ | ⟨h2, _⟩, ho3⟩
          rotate_left
          · omega
          unfold wrongV
          go_wp2_with fail
          refine (entries_same [] _ _ _ (Prs.nil _) (Prs.nil _)).mono ?_
          rintro e w4 ⟨rfl, ho4⟩
          have c0 := ho4.cell (p := ⟨w3.heap.size, 0, none⟩) (v := .int .i64 100) (by simp [go_sem])
          have c1 := ho4.cell (p := ⟨w3.heap.size, 1, none⟩) (v := .int .i64 A) (by simp [go_sem])
          have c2 := ho4.cell (p := ⟨w3.heap.size, 2, none⟩) (v := .int .i64 line) (by simp [go_sem])
          have c3 := ho4.cell (p := ⟨w3.heap.size, 3, none⟩) (v := .int .i64 1) (by simp [go_sem])
          have c4 := ho4.cell (p := ⟨w3.heap.size, 4, none⟩) (v := .string name) (by simp [go_sem])
          go_wp2_with fail
          refine (told_err (f := ⟨100, A, line, 1, name⟩) (hu.old ((ho3.alloc _).trans ho4)) (by simp)).mono ?_
          rintro e w5 ⟨rfl, ho5⟩
          go_wp2_with fail
          refine (awake_any _).mono ?_
          rintro e w6 ⟨rfl, ho6⟩
          go_wp2_with fail
          go_ret
          exact ⟨rfl, ((((hold.trans ho2).trans ho3).alloc _).trans ho4).trans (ho5.trans ho6)⟩
        · go_wp2_with fail
          refine (HB.out _ ho2).mono ?_
          rintro e w3 ⟨⟨h2, _⟩ | ⟨_, x, rfl, hx⟩, ho3⟩
          · omega
          unfold wrongV
          have Hu := Lib.hid hu
          have Hx := Lib.hid hx
          clear hu hx
          go_wp2_with fail
          refine (entries_same T _ _ _ (Hu.out.old (ho3.alloc _)) (Hx.out.old ((Old.refl _).alloc _))).mono ?_
          rintro e w4 ⟨rfl, ho4⟩
          have c0 := ho4.cell (p := ⟨w3.heap.size, 0, none⟩) (v := .int .i64 0) (by simp [go_sem])
          have c1 := ho4.cell (p := ⟨w3.heap.size, 1, none⟩) (v := .int .i64 0) (by simp [go_sem])
          have c2 := ho4.cell (p := ⟨w3.heap.size, 2, none⟩) (v := .int .i64 0) (by simp [go_sem])
          have c3 := ho4.cell (p := ⟨w3.heap.size, 3, none⟩) (v := .int .i64 0) (by simp [go_sem])
          have c4 := ho4.cell (p := ⟨w3.heap.size, 4, none⟩) (v := .string ⟨#[]⟩) (by simp [go_sem])
          go_wp2_with fail
          refine (told_nil _).mono ?_
          rintro e w5 ⟨rfl, ho5⟩
          go_wp2_with fail
          refine (awake_any _).mono ?_
          rintro e w6 ⟨rfl, ho6⟩
          go_wp2_with fail
          go_ret
          exact ⟨rfl, ((((hold.trans ho2).trans ho3).alloc _).trans ho4).trans (ho5.trans ho6)⟩
end Go.Proofs.Ytigpjfebnppejaa
