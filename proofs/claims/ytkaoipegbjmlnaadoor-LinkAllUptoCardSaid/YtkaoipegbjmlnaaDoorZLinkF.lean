/-
  LINK, F: to whom each topic refers: rows that are owned apart.
-/
import Derived.Test.YtkaoipegbjmlnaaDoorZLinkE
import Derived.Deep.AppendLies
import Derived.Deep.RegionLaw
namespace Go.Proofs.YtkaoipegbjmlnaaDoor
open Go.RowKit
attribute [local go_sem] Old.refl Old.alloc Old.drew Old.setCell OldW.old

theorem grown_set (W : World) (b o : Nat) (v : Value) : W.grownBy (W.setCell ⟨b, o, none⟩ v) (some b) :=
  ⟨rfl, rfl, rfl, (KeepsWalks.setCell W _ v).size, fun k _ hk => Below.heap_setCell _ _ _ k (fun e => hk (by rw [e]))⟩
abbrev SlV := Option Addr × Nat × Nat
def slv (x : SlV) : Value := .slice x.1 x.2.1 x.2.2
def slvE : Enc SlV where
  k := 1
  enc x := [slv x]
  len _ := rfl
  one x u hu := by
    simp only [List.mem_cons, List.not_mem_nil, or_false] at hu
    rcases hu with rfl; rfl
theorem infoSlI : (Tryd.prog.info? 59).map (fun i => (i.zero, i.size, i.bytes)) = some (some (.slice none 0 0), 1, 24) := by kernel_rfl
section
variable {P : Program} {ops : Array Oper} {rest : List Oper} {o : Oper} {a : Act} {Q : Exit → Act → World → Prop}
theorem wpList_make_encs {α : Type} {c : Enc α} {w0 w : World} (hg : o.guard = none) (l cc : Operand) (T : TypeId) (hop : o.op = Op.makeSlice T l cc) (E : TypeId) (ht : P.underlying T = some (.slice E)) (zv : Value) {bytes : Nat}
    (hinfo : (P.info? E).map (fun i => (i.zero, i.size, i.bytes)) = some (some zv, 1, bytes)) (hcz : zv.cells = #[zv]) (hk : c.k = 1) (z0 : α) (hz : c.enc z0 = [zv]) (n : Nat) (hl : a.eval l = .int .i64 n) (hc : a.eval cc = .int .i64 n) (hn : n * bytes ≤ 140737488355328) (hn2 : n ≤ 1073741824) (hold : Old w0 w)
    (hK : ∀ w', OwnS c E w0 w' (.slice (some ⟨w.heap.size, 0, none⟩) n n) (List.replicate n z0) → Old w w' → w.heap.size < w'.heap.size → wpList P ops Q rest (a.put o.dst (.slice (some ⟨w.heap.size, 0, none⟩) n n)) w') : wpList P ops Q (o :: rest) a w := by
  obtain ⟨i, hi, hz0, hz1, hz2⟩ := info_parts hinfo
  refine wpList_make_full w hg l cc T hop w0.heap.size E i zv 1 ht hi hz0 hz1 .i64 .i64 n n n hl hc rfl rfl (by rw [hz2]; first | omega | (rw [Nat.mul_comm]; omega)) (by simp [maxLen]; omega) hold.size fun w' h1 h2 => ?_
  refine hK w' ?_ ⟨h2.os, h2.tape, h2.output, h2.size, fun k hk => h2.block k hk (by simp)⟩ (h1.lt _ rfl).2
  unfold OwnS
  rw [List.length_replicate, hk]
  have e : c.all (List.replicate n z0) = List.replicate n zv := by
    clear h1 h2 hK hl hc hn hn2
    induction n with
    | zero => rfl
    | succ n ih => rw [List.replicate_succ, Enc.all_cons, ih, hz]; rfl
  rw [e]
  simpa [toList_madeCells_one, hcz] using h1
end
/-- a row of n rows of the call's own, no two in one block -/
structure Rows (w0 w : World) (G n : Nat) (V : Nat → SlV) (L : Nat → List Int) : Prop where
  head : OwnS slvE 59 w0 w (.slice (some ⟨G, 0, none⟩) n n) ((List.range n).map V)
  rows : ∀ i, i < n → OwnI 3 w0 w (slv (V i)) (L i)
  notG : ∀ i, i < n → (slv (V i)).ownBlock ≠ some G
  apart : ∀ i j, i < n → j < n → i ≠ j → (slv (V i)).ownBlock = none ∨ (slv (V i)).ownBlock ≠ (slv (V j)).ownBlock
theorem Rows.old {w0 w w' : World} {G n : Nat} {V : Nat → SlV} {L : Nat → List Int} (h : Rows w0 w G n V L) (o : Old w w') : Rows w0 w' G n V L :=
  ⟨h.head.old o, fun i hi => (h.rows i hi).old o, h.notG, h.apart⟩
theorem Rows.congr {w0 w : World} {G n : Nat} {V : Nat → SlV} {L L' : Nat → List Int} (h : Rows w0 w G n V L) (e : ∀ i, i < n → L i = L' i) : Rows w0 w G n V L' :=
  ⟨h.head, fun i hi => by rw [← e i hi]; exact h.rows i hi, h.notG, h.apart⟩
theorem Rows.start {w0 w : World} {G n : Nat} (h : OwnS slvE 59 w0 w (.slice (some ⟨G, 0, none⟩) n n) (List.replicate n (none, 0, 0))) : Rows w0 w G n (fun _ => (none, 0, 0)) (fun _ => []) := by
  refine ⟨?_, fun i _ => OwnI.nil _ _ _, fun i _ => by simp [slv, Value.ownBlock], fun i j _ _ _ => .inl rfl⟩
  have e : (List.range n).map (fun _ => ((none, 0, 0) : SlV)) = List.replicate n (none, 0, 0) := by
    refine List.ext_getElem? fun j => ?_
    rw [List.getElem?_map, List.getElem?_replicate]
    by_cases h : j < n
    · rw [List.getElem?_range h, if_pos h]; rfl
    · rw [List.getElem?_eq_none (by simp; omega), if_neg h]; rfl
  rw [e]; exact h
theorem Rows.lt {w0 w : World} {G n : Nat} {V : Nat → SlV} {L : Nat → List Int} (h : Rows w0 w G n V L) : w0.heap.size ≤ G ∧ G < w.heap.size := World.ownsRow.lt h.head G rfl
theorem Rows.cell {w0 w : World} {G n i : Nat} {V : Nat → SlV} {L : Nat → List Int} (h : Rows w0 w G n V L) (hi : i < n) : w.cell? ⟨G, i, none⟩ = some (slv (V i)) := by
  have := h.head.cell (i := i) (j := 0) (x := V i) (u := slv (V i)) (by rw [List.getElem?_map, List.getElem?_range hi]; rfl) rfl
  simpa [slvE] using this
theorem Rows.frozen {w0 w : World} {G n : Nat} {V : Nat → SlV} {L : Nat → List Int} (h : Rows w0 w G n V L) (i : Nat) : w.frozen? ⟨G, i, none⟩ = false := h.head.frozen i
/-- one row grows: the others lie as they lay -/
theorem Rows.grown {w0 w w1 : World} {G n i : Nat} {V : Nat → SlV} {L : Nat → List Int} (h : Rows w0 w G n V L) (hi : i < n) (hg : w.grownBy w1 (slv (V i)).ownBlock) :
    w1.cell? ⟨G, i, none⟩ = some (slv (V i)) ∧ w1.frozen? ⟨G, i, none⟩ = false ∧ OwnS slvE 59 w0 w1 (.slice (some ⟨G, 0, none⟩) n n) ((List.range n).map V) := by
  have hne := fun e : some G = (slv (V i)).ownBlock => h.notG i hi e.symm
  refine ⟨?_, ?_, h.head.kept hg (.inr hne)⟩
  · rw [hg.cell_far ⟨G, i, none⟩ h.lt.2 hne]; exact h.cell hi
  · rw [hg.frozen_far ⟨G, i, none⟩ h.lt.2 hne]; exact h.frozen i
theorem range_set {α : Type} {n i : Nat} (V : Nat → α) (x : α) : ((List.range n).map V).set i x = (List.range n).map fun j => if j = i then x else V j := by
  refine List.ext_getElem? fun j => ?_
  by_cases hj : j < n
  · rw [List.getElem?_map, List.getElem?_range hj]
    by_cases e : i = j
    · subst e
      rw [List.getElem?_set_self (by simpa using hj)]
      simp
    · rw [List.getElem?_set_ne e, List.getElem?_map, List.getElem?_range hj]
      show some (V j) = some (if j = i then x else V j)
      rw [if_neg (Ne.symm e)]
  · rw [List.getElem?_eq_none (by simp; omega), List.getElem?_eq_none (by simp; omega)]
theorem Rows.put {w0 w w1 : World} {G n i : Nat} {V : Nat → SlV} {L : Nat → List Int} (h : Rows w0 w G n V L) (hi : i < n) {v' : SlV} {l' : List Int} (hg : w.grownBy w1 (slv (V i)).ownBlock) (hown : OwnI 3 w0 w1 (slv v') l')
    (hat : (slv v').ownBlock = (slv (V i)).ownBlock ∨ ∃ g, (slv v').ownBlock = some g ∧ w.heap.size ≤ g) :
    Rows w0 (w1.setCell ⟨G, i, none⟩ (slv v')) G n (fun j => if j = i then v' else V j) (fun j => if j = i then l' else L j) := by
  obtain ⟨_, _, hh⟩ := h.grown hi hg
  have hGlt := h.lt.2
  have hnew : (slv v').ownBlock ≠ some G := by
    rcases hat with e | ⟨g, e, hgl⟩
    · rw [e]; exact h.notG i hi
    · rw [e]; intro e2; have := Option.some.inj e2; omega
  have hfar : ∀ j, j < n → j ≠ i → (slv v').ownBlock = none ∨ (slv v').ownBlock ≠ (slv (V j)).ownBlock := fun j hj hji => by
    rcases hat with e | ⟨g, e, hgl⟩
    · rw [e]; exact h.apart i j hi hj (Ne.symm hji)
    · refine .inr fun e2 => ?_
      rw [e] at e2
      have := (World.ownsRow.lt (h.rows j hj) g e2.symm).2
      omega
  refine ⟨?_, fun j hj => ?_, fun j hj => ?_, fun j k hj hk hjk => ?_⟩
  · have hs := OwnS.stored hh (i := i) (j := 0) (x := V i) (x' := v') (u := slv v') (by rw [List.getElem?_map, List.getElem?_range hi]; rfl) (by decide) rfl
    rw [range_set] at hs
    simpa [slvE] using hs
  · try dsimp only
    by_cases e : j = i
    · rw [if_pos e, if_pos e]
      exact hown.kept (grown_set _ _ _ _) (.inr hnew)
    · rw [if_neg e, if_neg e]
      exact ((h.rows j hj).kept hg (h.apart j i hj hi e)).kept (grown_set _ _ _ _) (.inr (h.notG j hj))
  · try dsimp only
    by_cases e : j = i
    · rw [if_pos e]; exact hnew
    · rw [if_neg e]; exact h.notG j hj
  · try dsimp only
    by_cases e : j = i
    · rw [if_pos e, if_neg (fun e2 => hjk (e.trans e2.symm))]
      exact hfar k hk (fun e2 => hjk (e.trans e2.symm))
    · rw [if_neg e]
      by_cases e2 : k = i
      · rw [if_pos e2]
        rcases hfar j hj e with hn | hn
        · rw [hn]; by_cases e3 : (slv (V j)).ownBlock = none
          · exact .inl e3
          · exact .inr e3
        · exact .inr fun e3 => hn e3.symm
      · rw [if_neg e2]; exact h.apart j k hj hk hjk
/-- append of one to a row of rows, as the region leaves it -/
theorem put_graph {w0 wr w1 : World} {G n i gg cap : Nat} {V : Nat → SlV} {L : Nat → List Int} {ai : Option Addr} {ni ci : Nat} {y : Int} {o : Obj} (h : Rows w0 wr G n V L) (hi : i < n) (hv : slv (V i) = .slice ai ni ci) (hgrow : ((wr.alloc o).drew).grownBy w1 (Value.slice ai ni ci).ownBlock)
    (hown : w1.ownsRow w0.heap.size 3 1 (.slice (some ⟨gg, 0, none⟩) (ni + 1) cap) (ni + 1) ((L i).map (Value.int .i64) ++ [.int .i64 y])) (hat : (Value.slice ai ni ci).ownBlock = some gg ∨ gg = wr.heap.size + 1) (hni : ni = (L i).length) :
    w1.cell? ⟨G, i, none⟩ = some (.slice ai ni ci) ∧ w1.frozen? ⟨G, i, none⟩ = false ∧
    Rows w0 (w1.setCell ⟨G, i, none⟩ (.slice (some ⟨gg, 0, none⟩) (ni + 1) cap)) G n (fun j => if j = i then (some ⟨gg, 0, none⟩, ni + 1, cap) else V j) (fun j => if j = i then L i ++ [y] else L j) ∧
    (Old w0 wr → Old w0 (w1.setCell ⟨G, i, none⟩ (.slice (some ⟨gg, 0, none⟩) (ni + 1) cap))) ∧
    (∀ p v, wr.cell? p = some v → some p.block ≠ (Value.slice ai ni ci).ownBlock → w1.cell? p = some v) := by
  have oa : Old wr ((wr.alloc o).drew) := ((Old.refl wr).alloc o).drew
  have h2 := h.old oa
  rw [← hv] at hgrow hat
  obtain ⟨k1, k2, _⟩ := h2.grown hi hgrow
  have hown' : OwnI 3 w0 w1 (slv (some ⟨gg, 0, none⟩, ni + 1, cap)) (L i ++ [y]) := by
    unfold OwnI
    rw [List.map_append, List.length_append, ← hni]
    exact hown
  have hp := h2.put hi (v' := (some ⟨gg, 0, none⟩, ni + 1, cap)) (l' := L i ++ [y]) hgrow hown' (by
    rcases hat with e | e
    · exact .inl (by rw [e]; rfl)
    · have hz : ((wr.alloc o).drew).heap.size = wr.heap.size + 1 := by simp
      exact .inr ⟨gg, rfl, by rw [hz]; omega⟩)
  refine ⟨by rw [← hv]; exact k1, k2, hp, fun ho => ?_, fun p v hp hne => ?_⟩
  · exact ((ho.trans oa).grown hgrow (fun q hq => (World.ownsRow.lt (h2.rows i hi) q hq).1)).setCell (p := ⟨G, i, none⟩) h.lt.1 _
  · rw [hgrow.cell_far p (Nat.lt_of_lt_of_le (World.block_lt_of_cell? _ _ hp) oa.size) (by rw [hv]; exact hne)]
    exact oa.cell hp
theorem rawOut_len (l : List Rfr) (tp a : Int) : (rawOut l tp a).length ≤ l.length := by
  unfold rawOut
  rw [List.length_map]
  exact List.length_filter_le _ _
set_option maxRecDepth 100000 in
set_option maxHeartbeats 1600000 in
theorem graph_any (HR : Rises) (v : Value) (l : List Rfr) (n : Nat) (w : World) (hl : Recs rfE w v l) (hn : l.length ≤ 65536) (hz : n ≤ 1000) :
    Calls Tryd.prog 30 #[v, .int .i64 n] w fun e w' => (∃ G V, e = .returned (.slice (some ⟨G, 0, none⟩) n n) ∧ Rows w w' G n V (fun i => outOf l n i)) ∧ Old w w' := by
  obtain ⟨a, cap, b, off, rfl, hc1, hc2, ha, ht⟩ := hl
  have Ha := Lib.hid ha
  have Ht := Lib.hid ht
  clear ha ht
  go_enter Tryd.func30, Tryd.ntmps30
  go_wp2_with (at_make; refine wpList_make_encs (c := slvE) (w0 := w) rfl _ _ 98 rfl 59 Tryd.underlying98 _ infoSlI rfl rfl (none, 0, 0) rfl n rfl rfl (by omega) (by omega) (Old.refl w) ?_; intro w2 hown ho2 hs2)
  go_loopw [13] (fun j wr => ∃ (k : Nat) (V : Nat → SlV), j = .int .i64 k ∧ k ≤ l.length ∧ Rows w wr w.heap.size n V (fun i => rawOut (l.take k) n i) ∧ Old w wr) (fun j _ => l.length - (intOf j).toNat)
  case atStart => exact ⟨0, _, rfl, Nat.zero_le _, Rows.start hown, ho2⟩
  case round =>
    obtain ⟨k, V, rfl, hk, hR, ho⟩ := hrel
    clear ho2 hown hs2
    have HRw := Lib.hid hR
    clear hR
    by_cases hlt : k < l.length
    · have hi : (k : Int) < l.length := by omega
      obtain rfl := Ha.out (by omega)
      obtain ⟨x, hx⟩ : ∃ x, l[k]? = some x := ⟨_, List.getElem?_eq_getElem hlt⟩
      have K := Recs.six Ht.out hx
      have k0 := (K wr ho).1
      have k1 := (K wr ho).2.1
      have k2 := (K wr ho).2.2.1
      have k3 := (K wr ho).2.2.2.1
      have k4 := (K wr ho).2.2.2.2.1
      have k5 := (K wr ho).2.2.2.2.2
      have Hsn := Lib.hid (show ∀ i : Int, rawOut (l.take (k + 1)) n i = rawOut (l.take k) n i ++ if (cntR x n && x.f == i) = true then [x.t] else [] from fun i => by
        rw [List.take_succ_eq_append_getElem hlt, (List.getElem?_eq_some_iff.1 hx).2, rawOut_snoc])
      have HCt := Lib.hid (fun V => counts_any x n V)
      unfold rfV at HCt
      have Hfr : Hid (cntR x n = true → ∃ m : Nat, x.f = m ∧ m < n) := cnt_from
      have Hlen : Hid (∀ i : Int, (rawOut (l.take k) n i).length ≤ k) := fun i => by
        have := rawOut_len (l.take k) n i
        rw [List.length_take] at this; omega
      clear K hx
      generalize cntR x n = c at *
      obtain ⟨xf, xt, xn, xs, xl, xc⟩ := x
      dsimp only at *
      have hb0 : ∀ V, Old (wr.alloc (.cells #[.int .i64 xf, .int .i64 xt, .int .i64 xn, .string xs, .int .i64 xl, .int .i64 xc] 43)) V → V.cell? ⟨wr.heap.size, 0, none⟩ = some (.int .i64 xf) := fun V o => o.cell (by simp [go_sem])
      have hb1 : ∀ V, Old (wr.alloc (.cells #[.int .i64 xf, .int .i64 xt, .int .i64 xn, .string xs, .int .i64 xl, .int .i64 xc] 43)) V → V.cell? ⟨wr.heap.size, 1, none⟩ = some (.int .i64 xt) := fun V o => o.cell (by simp [go_sem])
      have oa : Old wr (wr.alloc (.cells #[.int .i64 xf, .int .i64 xt, .int .i64 xn, .string xs, .int .i64 xl, .int .i64 xc] 43)) := (Old.refl wr).alloc _
      go_wp2_with fail
      refine (HCt.out _).mono ?_
      rintro e w3 ⟨rfl, ho3⟩
      have c0 := hb0 w3 ho3
      have c1 := hb1 w3 ho3
      have o3 : Old w w3 := (ho.trans oa).trans ho3
      have HR3 := Lib.hid (HRw.out.old (oa.trans ho3))
      clear hb0 hb1 oa
      cases c with
      | false =>
        have Hs : Hid (∀ i, i < n → rawOut (l.take k) n i = rawOut (l.take (k + 1)) n i) := fun i _ => by rw [Hsn.out]; simp
        go_wp2_with fail
        go_roundw
        case rel => exact ⟨k + 1, V, by go_num, by omega, HR3.out.congr Hs.out, o3⟩
        case measure => simp [intOf]; omega
      | true =>
        obtain ⟨i, hfi, hin⟩ := Hfr.out rfl
        subst hfi
        have Hs : Hid (∀ j, j < n → (if j = i then rawOut (l.take k) n i ++ [xt] else rawOut (l.take k) n j) = rawOut (l.take (k + 1)) n j) := fun j _ => by
          rw [Hsn.out]
          by_cases e : j = i
          · subst e
            rw [if_pos rfl, if_pos (by simp)]
          · rw [if_neg e, if_neg (by simp; omega)]; simp
        have hlen := Hlen.out i
        have cG := HR3.out.cell hin
        have hlt7 : ∀ g, (slv (V i)).ownBlock = some g → g < wr.heap.size := fun g hg => (World.ownsRow.lt (HRw.out.rows i hin) g hg).2
        obtain ⟨⟨ai, ni, ci⟩, hvi⟩ : ∃ x, V i = x := ⟨_, rfl⟩
        have hvs : slv (V i) = .slice ai ni ci := by rw [hvi]; rfl
        have hrow := HR3.out.rows i hin
        rw [hvs] at hrow cG hlt7
        have hni := hrow.len
        have HP := Lib.hid (fun (w1 : World) (gg cp : Nat) (y : Int) (o : Obj) => put_graph (w1 := w1) (gg := gg) (cap := cp) (y := y) (o := o) HR3.out hin hvs)
        have hrow' : w3.ownsRow w.heap.size 3 1 (.slice ai ni ci) ni ((rawOut (l.take k) n i).map (.int .i64)) := by
          have h := hrow
          unfold OwnI at h
          rw [← hni] at h
          exact h
        have hGn : (i : Int) < n := by omega
        have hni2 : ni ≤ 65536 := by omega
        have KS : ∀ V, Old w3 V → V.cell? ⟨w.heap.size, i, none⟩ = some (.slice ai ni ci) ∧ V.cell? ⟨wr.heap.size, 0, none⟩ = some (.int .i64 i) ∧ V.cell? ⟨wr.heap.size, 1, none⟩ = some (.int .i64 xt) := fun V o => ⟨o.cell cG, o.cell c0, o.cell c1⟩
        have K1 : ∀ V, Old w3 V → V.cell? ⟨w.heap.size, i, none⟩ = some (.slice ai ni ci) := fun V o => (KS V o).1
        have K2 : ∀ V, Old w3 V → V.cell? ⟨wr.heap.size, 0, none⟩ = some (.int .i64 i) := fun V o => (KS V o).2.1
        have K3 : ∀ V, Old w3 V → V.cell? ⟨wr.heap.size, 1, none⟩ = some (.int .i64 xt) := fun V o => (KS V o).2.2
        have hne7 : some wr.heap.size ≠ (Value.slice ai ni ci).ownBlock := fun e => Nat.lt_irrefl _ (hlt7 _ e.symm)
        obtain ⟨i0, hi0, hz0, hz1, hz2⟩ := info_parts infoInt
        have Hni := Lib.hid hni
        clear hvs hvi hlen KS hlt7 hni hrow
        generalize rawOut (l.take k) n i = raw at *
        go_wp2_with fail
        go_region_law
          ((refine step_append_lies _ (by rfl) _ _ _ (by rfl) w.heap.size 3 i0 _ 1 8 Tryd.underlying59 hi0 hz0 hz1 hz2 rfl (by omega) _ ni (raw.map (.int .i64)) (by rfl) ((World.ownsRow.alloc hrow' _).drew)
                ⟨w3.heap.size, 0, none⟩ 1 1 [.int .i64 xt] (by rfl) (by rfl) (World.news_of_block (cs := #[.int .i64 xt]) (t := 3) (fr := (0, 0)) (heap_alloc_new w3 _)) (by simp [Value.oneCell'])
                (by omega) (by simp [maxLen]; omega) (by omega) (by have := o3.size; simp; omega) (w3.heap.size + 1) (by simp) ?_; intro gg cp w4 hown4 hgrow hat hltg; obtain ⟨r1, r2, r3, r4, r5⟩ := HP.out w4 gg cp xt _ hgrow hown4 hat Hni.out; have r6 := r5 _ _ c0 hne7; have r7 := r5 _ _ c1 hne7))
        all_goals go_wp2_with fail
        all_goals go_roundw
        all_goals first
          | exact ⟨k + 1, _, by go_num, by omega, r3.congr Hs.out, r4 o3⟩
          | (simp [intOf]; omega)
    · obtain rfl : k = l.length := by omega
      rw [List.take_length] at HRw
      have hi : ¬ (l.length : Int) < l.length := by omega
      have Hof := Lib.hid (fun i : Nat => out_rise l n i)
      have Hle := Lib.hid (fun i : Nat => Nat.le_trans (rawOut_len l n i) hn)
      go_wp2_with fail
      go_loopw [36] (fun j wx => ∃ (k : Nat) (V : Nat → SlV), j = .int .i64 k ∧ k ≤ n ∧ Rows w wx w.heap.size n V (fun i => if i < k then outOf l n i else rawOut l n i) ∧ Old w wx) (fun j _ => n - (intOf j).toNat)
      case atStart => exact ⟨0, V, rfl, Nat.zero_le _, HRw.out.congr (fun i _ => by rw [if_neg (Nat.not_lt_zero i)]), ho⟩
      case round =>
        clear hk HRw hlt hi
        obtain ⟨k, V, rfl, hk, hR, ho⟩ := hrel
        have HRw := Lib.hid hR
        clear hR
        by_cases hlt : k < n
        · have hi : (k : Int) < n := by omega
          have cG := HRw.out.cell hlt
          have hrow := HRw.out.rows k hlt
          try dsimp only at hrow
          rw [if_neg (Nat.lt_irrefl k)] at hrow
          obtain ⟨⟨ai, ni, ci⟩, hvi⟩ : ∃ x, V k = x := ⟨_, rfl⟩
          have hvs : slv (V k) = .slice ai ni ci := by rw [hvi]; rfl
          rw [hvs] at hrow cG
          have Hrow := Lib.hid hrow
          have Hvs := Lib.hid hvs
          have HC := Lib.hid (HR w wr _ _ hrow (Hle.out k))
          rw [Hof.out] at HC
          clear hrow hvs hvi
          go_wp2_with fail
          refine HC.out.mono ?_
          rintro e w5 ⟨u, rfl, hu, hub, hg⟩
          rw [← Hvs.out] at hub hg
          obtain ⟨r1, r2, _⟩ := HRw.out.grown hlt hg
          rw [Hvs.out] at r1
          obtain ⟨au, cu, rfl, _, _⟩ := ownsRow_form hu
          have o5 : Old w w5 := ho.grown hg (fun b hb => (World.ownsRow.lt (HRw.out.rows k hlt) b hb).1)
          have hp := HRw.out.put hlt (v' := (au, (outOf l n k).length, cu)) (l' := outOf l n k) hg hu (.inl hub)
          have o6 := o5.setCell (p := ⟨w.heap.size, k, none⟩) (Nat.le_refl _) (slv (au, (outOf l n k).length, cu))
          have Hp := Lib.hid hp
          have hG := HRw.out.lt.1
          clear hp
          go_wp2_with fail
          go_roundw
          case rel =>
            refine ⟨k + 1, _, by go_num, by omega, Hp.out.congr fun i _ => ?_, o6⟩
            by_cases e : i = k
            · subst e
              rw [if_pos rfl, if_pos (Nat.lt_succ_self i)]
            · rw [if_neg e]
              by_cases e2 : i < k
              · rw [if_pos e2, if_pos (by omega)]
              · rw [if_neg e2, if_neg (by omega)]
          case measure => simp [intOf]; omega
        · obtain rfl : k = n := by omega
          have hi : ¬ (k : Int) < k := by omega
          go_wp2_with fail
          go_ret
          exact ⟨⟨_, rfl, V, HRw.out.congr fun i hi => by rw [if_pos hi]⟩, ho⟩
end Go.Proofs.YtkaoipegbjmlnaaDoor
