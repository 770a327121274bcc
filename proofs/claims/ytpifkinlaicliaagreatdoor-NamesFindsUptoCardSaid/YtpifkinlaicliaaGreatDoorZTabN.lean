/-
  A TABLE OF NAMES, MADE: New.
-/
import Derived.Test.YtpifkinlaicliaaGreatDoorZTab
import Derived.Deep.AppendLies
import Derived.Deep.RegionHeld3
namespace Go.Proofs.YtpifkinlaicliaaGreatDoor
open Go.RowKit Go.Maps
attribute [local go_sem] Old.refl Old.alloc Old.drew Old.setCell OldW.old

/-- a table being made: its block, its map, its rows -/
structure TabO (w0 w : World) (c b n : Nat) (u0 u1 : Value) (l : List ByteArray) : Prop where
  base : w0.heap.size ≤ c
  lt : c < w.heap.size
  fz : ∀ o, w.frozen? ⟨c, o, none⟩ = false
  c0 : w.cell? ⟨c, 0, none⟩ = some u0
  c1 : w.cell? ⟨c, 1, none⟩ = some u1
  c2 : w.cell? ⟨c, 2, none⟩ = some (.map (some b))
  r0 : OwnS txE 9 w0 w u0 l
  r1 : OwnS txE 9 w0 w u1 (l.map nrm)
  mp : MapTO Tryz.prog 9 3 w b n (findN (l.map nrm))
  nle : n ≤ l.length
  bb : w0.heap.size ≤ b
  bc : b ≠ c
  a0 : u0.ownBlock ≠ some c
  a1 : u1.ownBlock ≠ some c
  b0 : u0.ownBlock ≠ some b
  b1 : u1.ownBlock ≠ some b
  ap : u0.ownBlock = none ∨ u0.ownBlock ≠ u1.ownBlock
theorem TabO.tab {w0 w : World} {c b n : Nat} {u0 u1 : Value} {l : List ByteArray} (h : TabO w0 w c b n u0 u1 l) : Tab w c l :=
  ⟨⟨u0, later h.c0, Txts.of_recs h.r0.recs⟩, ⟨u1, later h.c1, Txts.of_recs h.r1.recs⟩, .inr ⟨b, n, later h.c2, h.mp⟩⟩
theorem frozen_block {w W : World} {p : Addr} (h : W.heap[p.block]? = w.heap[p.block]?) : W.frozen? p = w.frozen? p := by
  unfold World.frozen?
  rw [h]
theorem TabO.kept {w0 w W : World} {c b n : Nat} {u0 u1 : Value} {l : List ByteArray} (h : TabO w0 w c b n u0 u1 l) {row : Option Nat} (hg : w.grownBy W row) (hr : ∀ k, row = some k → k < w0.heap.size) : TabO w0 W c b n u0 u1 l := by
  have hc : ∀ g, w0.heap.size ≤ g → some g ≠ row := fun g hg e => by have := hr g e.symm; omega
  have hb := hg.block c h.lt (hc c h.base)
  refine ⟨h.base, Nat.lt_of_lt_of_le h.lt hg.size, fun o => (frozen_block (p := ⟨c, o, none⟩) hb).trans (h.fz o), (World.cell?_of_block (a := ⟨c, 0, none⟩) hb).trans h.c0, (World.cell?_of_block (a := ⟨c, 1, none⟩) hb).trans h.c1, (World.cell?_of_block (a := ⟨c, 2, none⟩) hb).trans h.c2, ?_, ?_, h.mp.kept hg (hc b h.bb), h.nle, h.bb, h.bc, h.a0, h.a1, h.b0, h.b1, h.ap⟩
  · refine h.r0.kept hg ?_
    cases e : u0.ownBlock with
    | none => exact .inl rfl
    | some g => exact .inr (hc g (World.ownsRow.lt h.r0 g e).1)
  · refine h.r1.kept hg ?_
    cases e : u1.ownBlock with
    | none => exact .inl rfl
    | some g => exact .inr (hc g (World.ownsRow.lt h.r1 g e).1)
theorem TabO.old {w0 w W : World} {c b n : Nat} {u0 u1 : Value} {l : List ByteArray} (h : TabO w0 w c b n u0 u1 l) (o : Old w W) : TabO w0 W c b n u0 u1 l := h.kept (Old.grownBy o none) (fun _ e => by cases e)
/-- what New hands back -/
def RetNew (w w' : World) (l : List ByteArray) (e : Ending) : Prop :=
  ∃ p, e = .returned (.tuple #[.pointer p, .int .i64 (newR l).1, .int .i64 (newR l).2]) ∧ (((newR l).2 = 0 ∧ ∃ c b n u0 u1, p = some ⟨c, 0, none⟩ ∧ TabO w w' c b n u0 u1 l) ∨ (¬ (newR l).2 = 0 ∧ p = none))
theorem ret_three {a b c d e f : Value} (h : a = d) (k : b = e) (m : c = f) : Ending.returned (.tuple #[a, b, c]) = .returned (.tuple #[d, e, f]) := by rw [h, k, m]
theorem grownBy_tr {a b c : World} {row : Option Nat} (h : a.grownBy b row) (k : b.grownBy c row) : a.grownBy c row :=
  ⟨k.os.trans h.os, k.tape.trans h.tape, k.output.trans h.output, Nat.le_trans h.size k.size, fun i hi hne => (k.block i (Nat.lt_of_lt_of_le hi h.size) hne).trans (h.block i hi hne)⟩
theorem news_one {V : World} {b : Nat} {x : Value} (h : V.cell? ⟨b, 0, none⟩ = some x) : ∀ j u, [x][j]? = some u → V.cell? ((⟨b, 0, none⟩ : Addr).add j) = some u := by
  intro j u hu
  obtain rfl : j = 0 := by
    have := (List.getElem?_eq_some_iff.1 hu).1
    simpa using this
  simp at hu
  subst hu
  rw [Addr.add_lit]
  exact h
theorem keep_cell {V wa : World} {row : Option Nat} (h : V.grownBy wa row) {B : Nat} (hr : ∀ k, row = some k → k < B) : ∀ g o, B ≤ g → g < V.heap.size → wa.cell? ⟨g, o, none⟩ = V.cell? ⟨g, o, none⟩ := fun g o h1 h2 =>
  World.cell?_of_block (a := ⟨g, o, none⟩) (h.block g h2 fun e => by have := hr g e.symm; omega)
theorem ownsRow_old {w w' : World} {base e size n : Nat} {v : Value} {xs : List Value} (h : w.ownsRow base e size v n xs) (o : Old w w') : w'.ownsRow base e size v n xs := by
  have hg := Old.grownBy o none
  exact World.ownsRow.kept h hg (by cases hv : v.ownBlock <;> simp)
theorem infoTx : (Tryz.prog.info? 9).map (fun i => (i.zero, i.size, i.bytes)) = some (some (.string ⟨#[]⟩), 1, 16) := by kernel_rfl

/-- what stands behind the two appends and the two stores -/
theorem TabO.close {w w2 wa wb : World} {cl bl n k g0 g1 cp0 cp1 : Nat} {u0 u1 : Value} {l0 : List ByteArray} {s q : ByteArray} (o2 : Old w w2) (hcl : w.heap.size ≤ cl) (hbl : w.heap.size ≤ bl) (hbc : bl ≠ cl) (hlt : cl < w2.heap.size)
    (fz : ∀ o, w2.frozen? ⟨cl, o, none⟩ = false) (c0 : w2.cell? ⟨cl, 0, none⟩ = some u0) (c1 : w2.cell? ⟨cl, 1, none⟩ = some u1) (c2 : w2.cell? ⟨cl, 2, none⟩ = some (.map (some bl)))
    (hm : MapTO Tryz.prog 9 3 w2 bl (n + 1) (fun x => if x = q then some k else findN (l0.map nrm) x)) (hz : findN (l0.map nrm) q = none) (hq : nrm s = q) (hk : k = l0.length) (hn : n ≤ l0.length)
    (r0 : ∀ g, u0.ownBlock = some g → w.heap.size ≤ g ∧ g < w2.heap.size) (r1 : ∀ g, u1.ownBlock = some g → w.heap.size ≤ g ∧ g < w2.heap.size)
    (a0 : u0.ownBlock ≠ some cl) (a1 : u1.ownBlock ≠ some cl) (b0 : u0.ownBlock ≠ some bl) (b1 : u1.ownBlock ≠ some bl) (ap : u0.ownBlock = none ∨ u0.ownBlock ≠ u1.ownBlock)
    (hA : w2.grownBy wa u0.ownBlock) (hB : wa.grownBy wb u1.ownBlock) (t0 : u0.ownBlock = some g0 ∨ w2.heap.size ≤ g0) (t1 : u1.ownBlock = some g1 ∨ wa.heap.size ≤ g1) (l0' : g0 < wa.heap.size)
    (own0 : wa.ownsRow w.heap.size 9 1 (.slice (some ⟨g0, 0, none⟩) (k + 1) cp0) (k + 1) (txE.all l0 ++ [.string s])) (own1 : wb.ownsRow w.heap.size 9 1 (.slice (some ⟨g1, 0, none⟩) (k + 1) cp1) (k + 1) (txE.all (l0.map nrm) ++ [.string q])) :
    TabO w ((wb.setCell ⟨cl, 0, none⟩ (.slice (some ⟨g0, 0, none⟩) (k + 1) cp0)).setCell ⟨cl, 1, none⟩ (.slice (some ⟨g1, 0, none⟩) (k + 1) cp1)) cl bl (n + 1) (.slice (some ⟨g0, 0, none⟩) (k + 1) cp0) (.slice (some ⟨g1, 0, none⟩) (k + 1) cp1) (l0 ++ [s]) ∧
      Old w ((wb.setCell ⟨cl, 0, none⟩ (.slice (some ⟨g0, 0, none⟩) (k + 1) cp0)).setCell ⟨cl, 1, none⟩ (.slice (some ⟨g1, 0, none⟩) (k + 1) cp1)) := by
  have sA := hA.size
  have sB := hB.size
  have hblt : bl < w2.heap.size := hm.lt
  have n0 : g0 ≠ cl := by
    rcases t0 with h | h
    · intro e; rw [e] at h; exact a0 h
    · omega
  have n1 : g1 ≠ cl := by
    rcases t1 with h | h
    · intro e; rw [e] at h; exact a1 h
    · omega
  have m0 : g0 ≠ bl := by
    rcases t0 with h | h
    · intro e; rw [e] at h; exact b0 h
    · omega
  have m1 : g1 ≠ bl := by
    rcases t1 with h | h
    · intro e; rw [e] at h; exact b1 h
    · omega
  have x01 : u1.ownBlock ≠ some g0 := by
    intro e
    rcases t0 with h | h
    · rcases ap with h' | h'
      · rw [h] at h'; cases h'
      · exact h' (h.trans e.symm)
    · have := (r1 g0 e).2; omega
  have y01 : g0 ≠ g1 := by
    rcases t1 with h | h
    · intro e; rw [← e] at h; exact x01 h
    · omega
  have hbk := (hB.block cl (by omega) (Ne.symm a1)).trans (hA.block cl hlt (Ne.symm a0))
  have e0 := (World.cell?_of_block (a := ⟨cl, 0, none⟩) hbk).trans c0
  have e1 := (World.cell?_of_block (a := ⟨cl, 1, none⟩) hbk).trans c1
  have e2 := (World.cell?_of_block (a := ⟨cl, 2, none⟩) hbk).trans c2
  have f0 := fun o => (frozen_block (p := ⟨cl, o, none⟩) hbk).trans (fz o)
  have own0' := World.ownsRow.kept own0 hB (.inr (by simp only [Value.ownBlock]; exact Ne.symm x01))
  have kc : ∀ (V : World) (o : Nat) (x : Value), V.grownBy (V.setCell ⟨cl, o, none⟩ x) (some cl) := fun V o x => ⟨rfl, rfl, rfl, (KeepsWalks.setCell V _ x).size, fun k _ hk => Below.heap_setCell _ _ _ k (fun e => hk (by rw [e]))⟩
  have own0'' := World.ownsRow.kept (World.ownsRow.kept own0' (kc wb 0 (.slice (some ⟨g0, 0, none⟩) (k + 1) cp0)) (.inr (by simpa [Value.ownBlock] using n0))) (kc _ 1 (.slice (some ⟨g1, 0, none⟩) (k + 1) cp1)) (.inr (by simpa [Value.ownBlock] using n0))
  have own1'' := World.ownsRow.kept (World.ownsRow.kept own1 (kc wb 0 (.slice (some ⟨g0, 0, none⟩) (k + 1) cp0)) (.inr (by simpa [Value.ownBlock] using n1))) (kc _ 1 (.slice (some ⟨g1, 0, none⟩) (k + 1) cp1)) (.inr (by simpa [Value.ownBlock] using n1))
  have hbc' : some bl ≠ some cl := by intro e; exact hbc (Option.some.inj e)
  have hm' := (((hm.kept hA (Ne.symm b0)).kept hB (Ne.symm b1)).kept (kc wb 0 (.slice (some ⟨g0, 0, none⟩) (k + 1) cp0)) hbc').kept (kc _ 1 (.slice (some ⟨g1, 0, none⟩) (k + 1) cp1)) hbc'
  have hmap : (l0 ++ [s]).map nrm = l0.map nrm ++ [q] := by rw [List.map_append, ← hq]; rfl
  have hl : (l0 ++ [s]).length = k + 1 := by rw [List.length_append, hk]; rfl
  refine ⟨⟨hcl, by simp; omega, fun o => by rw [World.frozen?_setCell, World.frozen?_setCell]; exact f0 o, (World.cell?_setCell_other _ _ _ _ (by simp)).trans (World.cell?_setCell_same _ _ _ e0), World.cell?_setCell_same _ _ _ ((World.cell?_setCell_other _ _ _ _ (by simp)).trans e1),
    (World.cell?_setCell_other _ _ _ _ (by simp)).trans ((World.cell?_setCell_other _ _ _ _ (by simp)).trans e2), ?_, ?_, ?_, by rw [hl]; omega, hbl, hbc, by simpa [Value.ownBlock] using n0, by simpa [Value.ownBlock] using n1, by simpa [Value.ownBlock] using m0, by simpa [Value.ownBlock] using m1, .inr (by simpa [Value.ownBlock] using y01)⟩, ?_⟩
  · unfold OwnS
    rw [hl, Enc.all_append, Enc.all_one]
    exact own0''
  · unfold OwnS
    rw [List.length_map, hl, hmap, Enc.all_append, Enc.all_one]
    exact own1''
  · rw [hmap, findN_snoc (findN_none.1 hz), List.length_map, ← hk]
    exact hm'
  · exact (((o2.grown hA fun j hj => (r0 j hj).1).grown hB fun j hj => (r1 j hj).1).setCell (p := ⟨cl, 0, none⟩) hcl _).setCell (p := ⟨cl, 1, none⟩) hcl _
set_option maxRecDepth 100000 in
set_option maxHeartbeats 3200000 in
theorem New_any (l : List ByteArray) (v : Value) (w : World) (hv : Txts w v l) (hT : Tabs w) :
    Calls Tryz.prog 6 #[v] w fun e w' => RetNew w w' l e ∧ Old w w' := by
  by_cases hbig : 1000 < l.length
  · have hi : (1000 : Int) < l.length := by omega
    have Hr : Hid (newR l = (0, 2)) := Lib.hid (if_pos hbig)
    obtain ⟨a, cap, rfl, hc1, hc2⟩ := hv.form
    clear hv
    go_enter Tryz.func6, Tryz.ntmps6
    go_wp2_with fail
    go_ret3
    exact ⟨⟨none, ret_three rfl (by rw [Hr.out]; rfl) (by rw [Hr.out]; rfl), .inr ⟨by rw [Hr.out]; decide, rfl⟩⟩, Old.refl _⟩
  · have hi : ¬ (1000 : Int) < l.length := by omega
    have Hr : Hid (newR l = newAt l [] 0) := Lib.hid (if_neg hbig)
    obtain ⟨a, cap, rfl, hc1, hc2⟩ := hv.form
    have Hv := Lib.hid hv
    have HT := Lib.hid hT
    have hmm := @run_makeMap Tryz.prog
    clear hv hT
    go_enter Tryz.func6, Tryz.ntmps6
    go_upto_region 4 with fail
    have hS : TabO w ((w.alloc (.map #[] 0)).alloc (.cells #[.slice none 0 0, .slice none 0 0, .map (some w.heap.size)] 64)) (w.heap.size + 1) w.heap.size 0 (.slice none 0 0) (.slice none 0 0) [] := by
      refine ⟨by omega, by simp, fun o => by
        have h := World.alloc_heap_new (w.alloc (.map #[] 0)) (.cells #[.slice none 0 0, .slice none 0 0, .map (some w.heap.size)] 64)
        rw [World.size_alloc] at h
        unfold World.frozen?
        dsimp only
        rw [h]
        simp, by simp [go_sem], by simp [go_sem], by simp [go_sem], OwnS.nil _ _ _ _, OwnS.nil _ _ _ _, (MapTO.made _ _ _ _).old ((Old.refl _).alloc _), Nat.zero_le _, Nat.le_refl _, by omega, by simp [Value.ownBlock], by simp [Value.ownBlock], by simp [Value.ownBlock], by simp [Value.ownBlock], .inl rfl⟩
    have ho : Old w ((w.alloc (.map #[] 0)).alloc (.cells #[.slice none 0 0, .slice none 0 0, .map (some w.heap.size)] 64)) := ((Old.refl w).alloc _).alloc _
    generalize ((w.alloc (.map #[] 0)).alloc (.cells #[.slice none 0 0, .slice none 0 0, .map (some w.heap.size)] 64)) = W1 at *
    generalize hbl : w.heap.size = bl at *
    generalize hcl : bl + 1 = cl at *
    have hcl2 : bl ≠ cl := by omega
    clear hcl
    go_wp2_with fail
    go_loopw [20] (fun kv wr => ∃ (k n : Nat) (u0 u1 : Value), k ≤ l.length ∧ kv = .int .i64 k ∧ TabO w wr cl bl n u0 u1 (l.take k) ∧ newAt (l.drop k) ((l.take k).map nrm) k = newAt l [] 0 ∧ Old w wr) (fun kv _ => l.length - (intOf kv).toNat)
    case atStart => exact ⟨0, 0, _, _, Nat.zero_le _, rfl, hS, rfl, ho⟩
    case round =>
      clear hS ho
      obtain ⟨k, n, u0, u1, hk, rfl, hS, hat, ho⟩ := hrel
      have HS := Lib.hid hS
      have Hat := Lib.hid hat
      clear hS hat
      by_cases hlt : k < l.length
      · have hk1 : (k : Int) < l.length := by omega
        obtain ⟨b, off, cap', e, hc1', hc2', hN⟩ := Hv.out.at' hlt
        obtain ⟨rfl, _, rfl⟩ := Value.slice.inj e
        have kN := hN wr ho
        have hdrop : l.drop k = nmAt l k :: l.drop (k + 1) := by
          rw [List.drop_eq_getElem_cons hlt]
          simp [nmAt, List.getD, hlt]
        have htake : l.take (k + 1) = l.take k ++ [nmAt l k] := by
          rw [List.take_succ_eq_append_getElem hlt]
          simp [nmAt, List.getD, hlt]
        have Hdrop := Lib.hid hdrop
        have Htake := Lib.hid htake
        have HN := Lib.hid (Norm_any (nmAt l k) wr (HT.out.old ho))
        have hsz := normR_size (nmAt l k)
        clear hN e hdrop htake
        by_cases he : (normR (nmAt l k)).2 = 0
        · rw [he] at HN
          rw [show (normR (nmAt l k)).1 = nrm (nmAt l k) from rfl] at HN
          have hs' : (nrm (nmAt l k)).size ≤ 9223372036854775807 := by unfold nrm; omega
          have hstep : (findN ((l.take k).map nrm) (nrm (nmAt l k)) = none ∧ newAt (l.drop (k + 1)) ((l.take (k + 1)).map nrm) (k + 1) = newAt l [] 0) ∨ (∃ j, findN ((l.take k).map nrm) (nrm (nmAt l k)) = some j) ∧ newR l = (k, 71) := by
            cases hz : findN ((l.take k).map nrm) (nrm (nmAt l k)) with
            | none =>
              refine .inl ⟨rfl, ?_⟩
              rw [← Hat.out, Hdrop.out, newAt_on he (findN_none.1 hz), Htake.out, List.map_append]
              rfl
            | some j => exact .inr ⟨⟨j, rfl⟩, by rw [Hr.out, ← Hat.out, Hdrop.out, newAt_twice he (by
                obtain ⟨h1, h2⟩ := findN_some hz
                rw [← h2]
                simp only [List.getD, List.getElem?_eq_getElem h1, Option.getD_some]
                exact List.getElem_mem _)]⟩
          clear hsz he
          rcases hstep with ⟨hz, hn1⟩ | ⟨⟨j, hz⟩, hn⟩
          · have Hz := Lib.hid hz
            have Hn1 := Lib.hid hn1
            clear hz hn1
            generalize hq : nrm (nmAt l k) = q at *
            generalize nmAt l k = s at *
            go_upto_region 14 with (first
              | (go_at_call 20; refine HN.out.mono ?_; rintro e w1 ⟨rfl, o1⟩; have hS1 := HS.out.old o1; have c2 := hS1.c2; have HS1 := Lib.hid hS1; clear hS1)
              | (refine wpList_lookup_mto_ok rfl _ _ _ rfl _ _ Tryz.underlying9 Tryz.underlying62 Tryz.underlying3 zeroInt bl n _ rfl HS1.out.mp q rfl hs' none Hz.out ?_)
              | (refine wpList_update_mto (w0 := w) rfl _ _ _ _ rfl _ _ Tryz.underlying9 Tryz.underlying62 Tryz.underlying3 bl n _ rfl HS1.out.mp (by have := HS1.out.nle; rw [List.length_take] at this; omega) q k rfl hs' rfl ⟨by omega, by omega⟩ (ho.trans o1) (by rw [hbl]; exact Nat.le_refl _) ?_; intro w2 hm2 o2 hg2))
            clear c2
            have hcl3 : some cl ≠ some bl := by intro e; exact hcl2 (Option.some.inj e).symm
            have hbk := hg2.block cl HS1.out.lt hcl3
            have C0 := (World.cell?_of_block (a := ⟨cl, 0, none⟩) hbk).trans HS1.out.c0
            have C1 := (World.cell?_of_block (a := ⟨cl, 1, none⟩) hbk).trans HS1.out.c1
            have C2 := (World.cell?_of_block (a := ⟨cl, 2, none⟩) hbk).trans HS1.out.c2
            have FZ := Lib.hid (fun o => (frozen_block (p := ⟨cl, o, none⟩) hbk).trans (HS1.out.fz o))
            have R0 := Lib.hid (HS1.out.r0.kept hg2 (.inr HS1.out.b0))
            have R1 := Lib.hid (HS1.out.r1.kept hg2 (.inr HS1.out.b1))
            have HM := Lib.hid hm2
            have hlt2 : cl < w2.heap.size := Nat.lt_of_lt_of_le HS1.out.lt hg2.size
            have hwl : w.heap.size ≤ w2.heap.size := o2.size
            have HC0 := Lib.hid (later C0)
            have HC1 := Lib.hid (later C1)
            obtain ⟨i0, hi0, hz0, hz1, hz2⟩ := info_parts infoTx
            have hlen0 : (l.take k).length = k := by rw [List.length_take]; omega
            have hlen1 : ((l.take k).map nrm).length = k := by rw [List.length_map]; exact hlen0
            clear hg2 hm2 hbk
            have R0x : w2.ownsRow w.heap.size 9 1 u0 k (txE.all (l.take k)) := by have := R0.out; unfold OwnS at this; rw [hlen0] at this; exact this
            have R1x : w2.ownsRow w.heap.size 9 1 u1 k (txE.all ((l.take k).map nrm)) := by have := R1.out; unfold OwnS at this; rw [hlen1] at this; exact this
            have H63 : Hid (k + 1 ≤ maxLen) := Lib.hid (by show k + 1 ≤ 9223372036854775807; omega)
            have Hby : Hid ((k + 1) * 16 ≤ 140737488355328) := Lib.hid (by omega)
            have R0s := fun V (o : Old w2 V) => ownsRow_old R0x o
            have hu0 : ∀ g, u0.ownBlock = some g → g < w2.heap.size := fun g e => (World.ownsRow.lt R0x g e).2
            have hap : u1.ownBlock = none ∨ u1.ownBlock ≠ u0.ownBlock := by
              rcases HS1.out.ap with h | h
              · rw [h]; cases u1.ownBlock <;> simp
              · exact .inr (Ne.symm h)
            have hc0 : some cl ≠ u0.ownBlock := Ne.symm HS1.out.a0
            have hc1 : some cl ≠ u1.ownBlock := Ne.symm HS1.out.a1
            go_region_law (first
              | (refine step_append_lies _ (by rfl) _ _ 22 (by rfl) w.heap.size 9 i0 (.string ⟨#[]⟩) 1 16 Tryz.underlying22 hi0 hz0 hz1 hz2 rfl (by decide) u0 k (txE.all (l.take k)) rfl (R0s _ (by repeat (first | exact Old.refl _ | refine Old.drew ?_ | refine Old.alloc ?_ _))) ⟨_, 0, none⟩ 1 1 [.string s] rfl rfl (news_one (by simp [go_sem])) (fun v hv => by rw [List.mem_singleton] at hv; subst hv; rfl) (by decide) H63.out Hby.out (Nat.le_trans hwl (show Old w2 _ from (by repeat (first | exact Old.refl _ | refine Old.drew ?_ | refine Old.alloc ?_ _))).size) _ rfl ?_; intro g0 cp0 wa hown0 hg0 hat0 hlt0'; have hA := grownBy_tr (Old.grownBy (show Old w2 _ from (by repeat (first | exact Old.refl _ | refine Old.drew ?_ | refine Old.alloc ?_ _))) _) hg0; have hsA : w2.heap.size ≤ wa.heap.size := hA.size; have hkA := keep_cell hg0 (B := w2.heap.size) hu0; have R1s := fun V (o : Old wa V) => ownsRow_old (World.ownsRow.kept R1x hA hap) o; have D1 := later ((World.cell?_of_block (a := ⟨cl, 1, none⟩) (hA.block cl hlt2 hc0)).trans C1))
              | (refine step_append_lies _ (by rfl) _ _ 22 (by rfl) w.heap.size 9 i0 (.string ⟨#[]⟩) 1 16 Tryz.underlying22 hi0 hz0 hz1 hz2 rfl (by decide) u1 k (txE.all ((l.take k).map nrm)) rfl (R1s _ (by repeat (first | exact Old.refl _ | refine Old.drew ?_ | refine Old.alloc ?_ _))) ⟨_, 0, none⟩ 1 1 [.string q] rfl rfl (news_one (by first | (simp [go_sem]; done) | (rw [hkA _ _ (by first | (simp; done) | (simp; omega)) (by first | (simp; done) | (simp; omega))]; simp [go_sem]))) (fun v hv => by rw [List.mem_singleton] at hv; subst hv; rfl) (by decide) H63.out Hby.out (Nat.le_trans (Nat.le_trans hwl hsA) (show Old wa _ from (by repeat (first | exact Old.refl _ | refine Old.drew ?_ | refine Old.alloc ?_ _))).size) _ rfl ?_; intro g1 cp1 wb hown1 hg1 hat1 hlt1'; have hB := grownBy_tr (Old.grownBy (show Old wa _ from (by repeat (first | exact Old.refl _ | refine Old.drew ?_ | refine Old.alloc ?_ _))) _) hg1; have hbB := (hB.block cl (Nat.lt_of_lt_of_le hlt2 hsA) hc1).trans (hA.block cl hlt2 hc0); have E0 := (World.cell?_of_block (a := ⟨cl, 0, none⟩) hbB).trans C0; have E1 := (World.cell?_of_block (a := ⟨cl, 1, none⟩) hbB).trans C1; have F0 := (frozen_block (p := ⟨cl, 0, none⟩) hbB).trans (FZ.out 0); have F1 := (frozen_block (p := ⟨cl, 1, none⟩) hbB).trans (FZ.out 1)))
            all_goals
              clear HC0 HC1
              obtain ⟨hS2, ho2⟩ := TabO.close o2 HS1.out.base HS1.out.bb hcl2 hlt2 FZ.out C0 C1 C2 HM.out Hz.out hq hlen0.symm HS1.out.nle (fun g e => World.ownsRow.lt R0x g e) (fun g e => World.ownsRow.lt R1x g e) HS1.out.a0 HS1.out.a1 HS1.out.b0 HS1.out.b1 HS1.out.ap hA hB
                  (hat0.imp id (fun e => by rw [e]; exact (show Old w2 _ from (by repeat (first | exact Old.refl _ | refine Old.drew ?_ | refine Old.alloc ?_ _))).size)) (hat1.imp id (fun e => by rw [e]; exact (show Old wa _ from (by repeat (first | exact Old.refl _ | refine Old.drew ?_ | refine Old.alloc ?_ _))).size)) hlt0' hown0 hown1
              rw [← Htake.out] at hS2
              have HS2 := Lib.hid hS2
              clear hS2 hown0 hown1 R0x R1x R0s R1s hat0 hat1 hA hB hg0 hg1 hkA D1 E0 E1 F0 F1 C0 C1 C2 hbB
              go_wp2_with fail
              go_roundw
              case rel => exact ⟨k + 1, n + 1, _, _, by omega, by go_num, HS2.out, Hn1.out, ho2⟩
              case measure => simp [intOf]; omega
          · have Hn := Lib.hid hn
            have Hz := Lib.hid hz
            clear hn hz Hat Hdrop Htake
            generalize nrm (nmAt l k) = q at *
            generalize nmAt l k = s at *
            go_wp2_with (first
              | (go_at_call 20; refine HN.out.mono ?_; rintro e w1 ⟨rfl, o1⟩; have hS1 := HS.out.old o1; have c2 := hS1.c2; have HS1 := Lib.hid hS1; clear hS1)
              | (refine wpList_lookup_mto_ok rfl _ _ _ rfl _ _ Tryz.underlying9 Tryz.underlying62 Tryz.underlying3 zeroInt bl n _ rfl HS1.out.mp q rfl hs' (some j) Hz.out ?_))
            go_ret3
            exact ⟨⟨none, ret_three rfl (by rw [Hn.out]; rfl) (by rw [Hn.out]; rfl), .inr ⟨by rw [Hn.out]; show ¬ (71 : Int) = 0; decide, rfl⟩⟩, ho.trans o1⟩
        · have hne : ((normR (nmAt l k)).2 != 0) = true := by simpa using he
          have Hn : Hid (newR l = (k, (normR (nmAt l k)).2)) := Lib.hid (by rw [Hr.out, ← Hat.out, Hdrop.out, newAt_bad he])
          have He := Lib.hid he
          clear he Hdrop Htake Hat hsz
          generalize normR (nmAt l k) = q at *
          obtain ⟨q1, q2⟩ := q
          generalize nmAt l k = s at *
          dsimp only at *
          go_wp2_with (refine HN.out.mono ?_; rintro e w1 ⟨rfl, o1⟩)
          go_ret3
          exact ⟨⟨none, ret_three rfl (by rw [Hn.out]; rfl) (by rw [Hn.out]; rfl), .inr ⟨by rw [Hn.out]; exact He.out, rfl⟩⟩, ho.trans o1⟩
      · obtain rfl : k = l.length := by omega
        have hk1 : ¬ (l.length : Int) < l.length := by omega
        have hd : l.drop l.length = [] := List.drop_length
        have ht : l.take l.length = l := List.take_length
        rw [hd] at Hat
        rw [ht] at HS
        have Hn : Hid (newR l = (0, 0)) := Lib.hid (by rw [Hr.out, ← Hat.out]; rfl)
        clear hd ht Hat
        go_wp2_with fail
        go_ret3
        exact ⟨⟨_, ret_three rfl (by rw [Hn.out]; rfl) (by rw [Hn.out]; rfl), .inl ⟨by rw [Hn.out], _, _, _, _, _, rfl, HS.out⟩⟩, ho⟩
end Go.Proofs.YtpifkinlaicliaaGreatDoor
