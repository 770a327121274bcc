/-
  SOURCES BUILT OF TOPICS: what is laid, and where.
-/
import Derived.Test.YtkaoipegbjmlnaaDoorZRefsP
import Derived.Test.YtkaoipegbjmlnaaDoorZLinkF
import Derived.Deep.AppendLies
import Derived.Deep.RegionLaw
import Derived.Deep.DeepCutAuto
namespace Go.Proofs.YtkaoipegbjmlnaaDoor
open Go.RowKit
attribute [local go_sem] Old.refl Old.alloc Old.drew Old.setCell OldW.old

def topOf (ps : List Pc) : List (List Pc) := [[], ps]
/-- one topic more -/
def addT (cut : Int) (S : List (List (List (List Pc)))) (ps : List Pc) : List (List (List (List Pc))) :=
  match S.getLast? with
  | none => [[topOf ps]]
  | some l => if 0 < cut ∧ cut ≤ l.length then S ++ [[topOf ps]] else S.dropLast ++ [l ++ [topOf ps]]
def grp (cut : Int) (T : List (List Pc)) : List (List (List (List Pc))) := T.foldl (addT cut) []
theorem grp_snoc (cut : Int) (T : List (List Pc)) (ps : List Pc) : grp cut (T ++ [ps]) = addT cut (grp cut T) ps := by
  unfold grp
  rw [List.foldl_append]; rfl
def newB (cut : Int) (S : List (List (List (List Pc)))) : Bool :=
  match S.getLast? with
  | none => true
  | some l => decide (0 < cut) && decide (cut ≤ l.length)
theorem newB_snoc (cut : Int) (L0 : List (List (List (List Pc)))) (Lx : List (List (List Pc))) : newB cut (L0 ++ [Lx]) = (decide (0 < cut) && decide (cut ≤ Lx.length)) := by
  unfold newB
  rw [List.getLast?_concat]
theorem addT_new {cut : Int} {S : List (List (List (List Pc)))} (h : newB cut S = true) (ps : List Pc) : addT cut S ps = S ++ [[topOf ps]] := by
  unfold newB at h
  unfold addT
  cases hl : S.getLast? with
  | none => obtain rfl := List.getLast?_eq_none_iff.1 hl; rfl
  | some l =>
    rw [hl] at h
    dsimp only at h ⊢
    rw [if_pos (by simpa using h)]
theorem addT_same {cut : Int} {L0 : List (List (List (List Pc)))} {Lx : List (List (List Pc))} (h : newB cut (L0 ++ [Lx]) = false) (ps : List Pc) : addT cut (L0 ++ [Lx]) ps = L0 ++ [Lx ++ [topOf ps]] := by
  rw [newB_snoc] at h
  unfold addT
  rw [List.getLast?_concat, List.dropLast_concat]
  dsimp only
  rw [if_neg (by simpa using h)]
theorem take_at {α : Type} {l : List α} {k : Nat} {x : α} (h : l[k]? = some x) : l.take (k + 1) = l.take k ++ [x] := by
  obtain ⟨hk, rfl⟩ := List.getElem?_eq_some_iff.1 h
  exact List.take_succ_eq_append_getElem hk
theorem infoIn : (Tryd.prog.info? 65).map (fun i => (i.zero, i.size, i.bytes)) = some (some (.agg #[.int .i64 0, .string ⟨#[]⟩, .string ⟨#[]⟩, .int .i64 0, .int .i64 0]), 5, 56) := by kernel_rfl
theorem infoTp : (Tryd.prog.info? 57).map (fun i => (i.zero, i.size, i.bytes)) = some (some (.agg #[.int .i64 0, .string ⟨#[]⟩, .string ⟨#[]⟩, .int .i64 0, .slice none 0 0, .slice none 0 0, .slice none 0 0, .int .i64 0]), 8, 128) := by kernel_rfl
theorem infoSr : (Tryd.prog.info? 52).map (fun i => (i.zero, i.size, i.bytes)) = some (some (.agg #[.slice none 0 0, .slice none 0 0]), 2, 48) := by kernel_rfl
/-- the two blocks that are written: the sources' row, the last one's topics -/
def Fs (bo : Nat) (x : Sl) (b : Nat) : Prop := b = bo ∨ x.v.ownBlock = some b
/-- the sources as far as they are built -/
def St (W w : World) (ke kt : Nat) (vo : Value) (L0 : List (List (List (List Pc)))) (Lx : List (List (List Pc))) : Prop :=
  ∃ (e bo co : Nat) (init : List Sl) (x : Sl) (t : List Sl), vo = .slice (some ⟨bo, 0, none⟩) (e + 1) co ∧ init.length = e ∧ x.2.1 = t.length ∧ Lx.length = t.length ∧ e + 1 ≤ ke ∧ t.length ≤ kt ∧ W.heap.size ≤ bo ∧
    OwnS srE 52 W w vo (init ++ [x]) ∧ OwnS tpE 57 W w x.v t ∧ x.v.ownBlock ≠ some bo ∧ Both (SrcF (Fs bo x) w) init L0 ∧ Both (TopF (Fs bo x) w) t Lx
theorem St.start {W w : World} {v : Value} {bo co : Nat} (hv : v = .slice (some ⟨bo, 0, none⟩) 1 co) (h : OwnS srE 52 W w v [(none, 0, 0)]) : St W w 1 0 v [] [] := by
  subst hv
  exact ⟨0, bo, co, [], (none, 0, 0), [], rfl, rfl, rfl, rfl, Nat.le_refl _, Nat.le_refl _, (World.ownsRow.lt h bo rfl).1, h, OwnS.nil _ _ _ _, by simp [Sl.v, Value.ownBlock], Both.nil, Both.nil⟩
theorem Both.len {α β : Type} {R : β → α → Prop} {t : List β} {l : List α} (h : Both R t l) : t.length = l.length := h.1
theorem St.fresh {W w w3 : World} {ke kt : Nat} {L0 : List (List (List (List Pc)))} {Lx : List (List (List Pc))} {e bo co gg cap : Nat} {init : List Sl} {x : Sl} {t : List Sl} {o : Obj}
    (hs : init.length = e) (he : e + 1 ≤ ke)
    (h1 : OwnS srE 52 W w (.slice (some ⟨bo, 0, none⟩) (e + 1) co) (init ++ [x])) (h2 : OwnS tpE 57 W w x.v t) (hne : x.v.ownBlock ≠ some bo) (hb1 : Both (SrcF (Fs bo x) w) init L0) (hb2 : Both (TopF (Fs bo x) w) t Lx)
    (hown : w3.ownsRow W.heap.size 52 2 (.slice (some ⟨gg, 0, none⟩) (e + 1 + 1) cap) (e + 1 + 1) (srE.all (init ++ [x]) ++ srE.enc (none, 0, 0))) (hg : (w.alloc o).grownBy w3 (Value.slice (some ⟨bo, 0, none⟩) (e + 1) co).ownBlock)
    (hat : (Value.slice (some ⟨bo, 0, none⟩) (e + 1) co).ownBlock = some gg ∨ gg = w.heap.size + 1) : St W w3 (ke + 1) kt (.slice (some ⟨gg, 0, none⟩) (e + 1 + 1) cap) (L0 ++ [Lx]) [] := by
  have oa : Old w (w.alloc o) := (Old.refl w).alloc o
  have hF1 : ∀ b, b < w.heap.size → ¬ Fs bo x b → ¬ b = bo := fun b _ h e => h (.inl e)
  have k0 : KeptF (Fs bo x) w w := fun b _ _ => rfl
  have hx : SrcF (fun b => b = bo) w x Lx := ⟨t, RecsF.of_own h2 (fun b hb _ _ e => hne (by rw [hb, e])), hb2.mono fun _ _ h => h.kept k0 hF1⟩
  have hall : Both (SrcF (fun b => b = bo) w) (init ++ [x]) (L0 ++ [Lx]) := Both.snoc (hb1.mono fun _ _ h => h.kept k0 hF1) hx
  have hbo : bo < w.heap.size := (World.ownsRow.lt h1 bo rfl).2
  have hkw : KeptF (fun b => b = bo) w w3 := (KeptF.old oa).trans (KeptF.grown hg (fun b hb => (Option.some.inj hb).symm)) oa.size
  refine ⟨e + 1, gg, cap, init ++ [x], (none, 0, 0), [], rfl, by simp [hs], rfl, rfl, by omega, by simp, (World.ownsRow.lt hown gg rfl).1, ?_, OwnS.nil _ _ _ _, by simp [Sl.v, Value.ownBlock], ?_, Both.nil⟩
  · unfold OwnS
    rw [Enc.all_append, Enc.all_one]
    have hl : (init ++ [x] ++ [((none, 0, 0) : Sl)]).length = e + 1 + 1 := by simp [hs]
    rw [hl]
    exact hown
  · refine hall.mono fun _ _ h => h.kept hkw fun b hb hne hF => ?_
    rcases hF with rfl | hF
    · rcases hat with hat | hat
      · exact hne (Option.some.inj hat).symm
      · omega
    · simp [Sl.v, Value.ownBlock] at hF
/-- a topic more in the last source, as the region leaves it -/
theorem St.put {W w wp w1 : World} {ke kt : Nat} {L0 : List (List (List (List Pc)))} {Lx : List (List (List Pc))} {e bo co gg cap b1 m cx : Nat} {ax : Option Addr} {init : List Sl} {t : List Sl} {xs : Sl} {ps : List Pc}
    (hs : init.length = e) (hm : m = t.length) (hlx : Lx.length = t.length) (he : e + 1 ≤ ke) (ht : t.length ≤ kt)
    (h1 : OwnS srE 52 W w (.slice (some ⟨bo, 0, none⟩) (e + 1) co) (init ++ [(ax, m, cx)])) (h2 : OwnS tpE 57 W w (.slice ax m cx) t) (hne : (Value.slice ax m cx).ownBlock ≠ some bo) (hb1 : Both (SrcF (Fs bo (ax, m, cx)) w) init L0) (hb2 : Both (TopF (Fs bo (ax, m, cx)) w) t Lx)
    (oa : Old w wp) (hsz : wp.heap.size = w.heap.size + 2) (hb : b1 = w.heap.size) (hblk : ∀ j u, (blE.all [(5, (none, 0, 0)), (1, xs)])[j]? = some u → wp.cell? ⟨b1, j, none⟩ = some u) (htx : RecsF inE (Fs bo (ax, m, cx)) w xs.v ps)
    (hown : w1.ownsRow W.heap.size 57 8 (.slice (some ⟨gg, 0, none⟩) (m + 1) cap) (m + 1) (tpE.all t ++ tpE.enc (some ⟨b1, 0, none⟩, 2, 2))) (hg : wp.grownBy w1 (Value.slice ax m cx).ownBlock)
    (hat : (Value.slice ax m cx).ownBlock = some gg ∨ gg = w.heap.size + 2) (ho : Old W w) :
    w1.cell? ⟨bo, e * 2 + 1, none⟩ = some (.slice ax m cx) ∧ w1.frozen? ⟨bo, e * 2 + 1, none⟩ = false ∧ Old W (w1.setCell ⟨bo, e * 2 + 1, none⟩ (.slice (some ⟨gg, 0, none⟩) (m + 1) cap)) ∧
      St W (w1.setCell ⟨bo, e * 2 + 1, none⟩ (.slice (some ⟨gg, 0, none⟩) (m + 1) cap)) ke (kt + 1) (.slice (some ⟨bo, 0, none⟩) (e + 1) co) L0 (Lx ++ [topOf ps]) := by
  subst hb
  have hbo : bo < w.heap.size := (World.ownsRow.lt h1 bo rfl).2
  have hboW : W.heap.size ≤ bo := (World.ownsRow.lt h1 bo rfl).1
  have hxlt : ∀ b, (Value.slice ax m cx).ownBlock = some b → b < w.heap.size := fun b hb => (World.ownsRow.lt h2 b hb).2
  have hgg : gg ≠ bo := fun e => by
    rcases hat with h | h
    · exact hne (by rw [h, e])
    · omega
  have hrow : w1.ownsRow W.heap.size 52 2 (.slice (some ⟨bo, 0, none⟩) (e + 1) co) (init ++ [((ax, m, cx) : Sl)]).length (srE.all (init ++ [(ax, m, cx)])) := (h1.old oa).kept hg (.inr (fun e => hne e.symm))
  have hgetx : (init ++ [((ax, m, cx) : Sl)])[e]? = some (ax, m, cx) := by rw [← hs]; simp
  have hc := OwnS.cell (c := srE) hrow (i := e) (j := 1) hgetx rfl
  have hf := OwnS.frozen (c := srE) hrow (e * 2 + 1)
  have hset := OwnS.stored (c := srE) hrow (i := e) (j := 1) (x' := (some ⟨gg, 0, none⟩, m + 1, cap)) hgetx (by decide) rfl
  have hsetl : (init ++ [((ax, m, cx) : Sl)]).set e (some ⟨gg, 0, none⟩, m + 1, cap) = init ++ [(some ⟨gg, 0, none⟩, m + 1, cap)] := by rw [← hs]; simp
  rw [hsetl] at hset
  have hF : ∀ b, b < wp.heap.size → ¬ Fs bo (ax, m, cx) b → ¬ Fs bo (some ⟨gg, 0, none⟩, m + 1, cap) b := fun b hb hn hF => by
    rcases hF with rfl | hF
    · exact hn (.inl rfl)
    · have hF : gg = b := Option.some.inj hF
      subst hF
      rcases hat with h | h
      · exact hn (.inr h)
      · omega
  have hFw : ∀ b, b < w.heap.size → ¬ Fs bo (ax, m, cx) b → ¬ Fs bo (ax, m, cx) b := fun _ _ h => h
  have hk1 : KeptF (Fs bo (ax, m, cx)) w wp := KeptF.old oa
  have hk2 : KeptF (Fs bo (ax, m, cx)) wp (w1.setCell ⟨bo, e * 2 + 1, none⟩ (.slice (some ⟨gg, 0, none⟩) (m + 1) cap)) := (KeptF.grown hg (fun b hb => .inr hb)).trans (KeptF.setCell _ _ (.inl rfl)) hg.size
  have hfb : ¬ Fs bo (ax, m, cx) w.heap.size := fun h => by
    rcases h with h | h
    · omega
    · have := hxlt _ h; omega
  have hnew : TopF (Fs bo (ax, m, cx)) wp (some ⟨w.heap.size, 0, none⟩, 2, 2) (topOf ps) := by
    refine ⟨[(5, (none, 0, 0)), (1, xs)], RecsF.lit rfl (by simp) hfb hblk, rfl, fun i a b ha hb => ?_⟩
    match i, ha, hb with
    | 0, ha, hb =>
      obtain rfl := Option.some.inj ha
      obtain rfl := Option.some.inj hb
      exact RecsF.nil _ _ _
    | 1, ha, hb =>
      obtain rfl := Option.some.inj ha
      obtain rfl := Option.some.inj hb
      exact RecsF.kept htx hk1 hFw (by decide)
    | i + 2, ha, hb => simp at ha
  have hO1 : Old W w1 := (ho.trans oa).grown hg fun b hb => (World.ownsRow.lt h2 b hb).1
  refine ⟨hc, hf, hO1.setCell (p := ⟨bo, _, none⟩) hboW _, e, bo, co, init, (some ⟨gg, 0, none⟩, m + 1, cap), t ++ [(some ⟨w.heap.size, 0, none⟩, 2, 2)], rfl, hs, by simp [hm], by simp [hlx], he, by simp; omega, hboW, hset, ?_, fun h => hgg (Option.some.inj h), ?_, ?_⟩
  · have hl : (t ++ [((some ⟨w.heap.size, 0, none⟩, 2, 2) : Sl)]).length = m + 1 := by simp [hm]
    have h3 : OwnS tpE 57 W w1 (.slice (some ⟨gg, 0, none⟩) (m + 1) cap) (t ++ [(some ⟨w.heap.size, 0, none⟩, 2, 2)]) := by
      unfold OwnS
      rw [hl, Enc.all_append, Enc.all_one]; exact hown
    exact h3.kept (grown_set _ _ _ _) (.inr (fun h => hgg (Option.some.inj h)))
  · exact hb1.mono fun _ _ h => (h.kept hk1 hFw).kept hk2 hF
  · exact Both.snoc (hb2.mono fun _ _ h => (h.kept hk1 hFw).kept hk2 hF) (hnew.kept hk2 hF)
/-- a record appended to the slice that the cell jx of the block g holds -/
theorem put_at {wb wr wa w1 : World} {g jx m cpx gg cap k : Nat} {E : TypeId} {ax : Option Addr} {xs ys : List Value} (hob : OldBut g wb wr) (hgb : g < wb.heap.size) (cx : wr.cell? ⟨g, jx, none⟩ = some (.slice ax m cpx))
    (fz : ∀ j, wr.frozen? ⟨g, j, none⟩ = false) (hown' : wr.ownsRow wb.heap.size E k (.slice ax m cpx) m xs) (oa : Old wr wa) (hgrow : wa.grownBy w1 (Value.slice ax m cpx).ownBlock) (hown1 : w1.ownsRow wb.heap.size E k (.slice (some ⟨gg, 0, none⟩) (m + 1) cap) (m + 1) ys) :
    w1.cell? ⟨g, jx, none⟩ = some (.slice ax m cpx) ∧ w1.frozen? ⟨g, jx, none⟩ = false ∧ (w1.setCell ⟨g, jx, none⟩ (.slice (some ⟨gg, 0, none⟩) (m + 1) cap)).cell? ⟨g, jx, none⟩ = some (.slice (some ⟨gg, 0, none⟩) (m + 1) cap) ∧
      (∀ j u, j ≠ jx → wr.cell? ⟨g, j, none⟩ = some u → (w1.setCell ⟨g, jx, none⟩ (.slice (some ⟨gg, 0, none⟩) (m + 1) cap)).cell? ⟨g, j, none⟩ = some u) ∧ (∀ j, (w1.setCell ⟨g, jx, none⟩ (.slice (some ⟨gg, 0, none⟩) (m + 1) cap)).frozen? ⟨g, j, none⟩ = false) ∧
      (w1.setCell ⟨g, jx, none⟩ (.slice (some ⟨gg, 0, none⟩) (m + 1) cap)).ownsRow wb.heap.size E k (.slice (some ⟨gg, 0, none⟩) (m + 1) cap) (m + 1) ys ∧ OldBut g wb (w1.setCell ⟨g, jx, none⟩ (.slice (some ⟨gg, 0, none⟩) (m + 1) cap)) := by
  have hgw : g < wr.heap.size := World.block_lt_of_cell? wr _ cx
  have hne : some g ≠ (Value.slice ax m cpx).ownBlock := fun e => by
    have := (World.ownsRow.lt hown' g e.symm).1
    omega
  have hlt2 : g < wa.heap.size := Nat.lt_of_lt_of_le hgw oa.size
  have far : ∀ j u, wr.cell? ⟨g, j, none⟩ = some u → w1.cell? ⟨g, j, none⟩ = some u := fun j u hu => by rw [hgrow.cell_far ⟨g, j, none⟩ hlt2 hne]; exact oa.cell hu
  have df : ∀ j, w1.frozen? ⟨g, j, none⟩ = false := fun j => by rw [hgrow.frozen_far ⟨g, j, none⟩ hlt2 hne, frozen_old oa hgw]; exact fz j
  have ho1 : OldBut g wb w1 := ⟨hgrow.os.trans ((hob.old oa)).os, hgrow.tape.trans (hob.old oa).tape, hgrow.output.trans (hob.old oa).output, Nat.le_trans (hob.old oa).size hgrow.size, fun k hk hb => by
    rw [hgrow.block k (Nat.lt_of_lt_of_le hk (hob.old oa).size) (fun e => by have := (World.ownsRow.lt hown' k e.symm).1; omega)]
    exact (hob.old oa).block k hk hb⟩
  have hgg : g ≠ gg := fun e => by
    have := (World.ownsRow.lt hown1 gg rfl).1
    omega
  have d1 := far jx _ cx
  refine ⟨d1, df jx, by simp [go_sem, d1], fun j u hj hu => ?_, fun j => ?_, ?_, ho1.setCell _ _⟩
  · have := far j u hu
    simp [go_sem, this]
  · simp [go_sem]; exact df j
  · obtain ⟨h1, h2⟩ := hown1
    refine ⟨h1, ?_⟩
    rcases h2 with h2 | ⟨g', cap', cur, e', hb, hc, r⟩
    · exact .inl h2
    · refine .inr ⟨g', cap', cur, e', hb, ?_, r⟩
      have hne' : g' ≠ g := fun e => by omega
      rw [((OldBut.refl g w1).setCell jx _).block g' (Array.getElem?_eq_some_iff.1 hc).1 hne']
      exact hc
end Go.Proofs.YtkaoipegbjmlnaaDoor
