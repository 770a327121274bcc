/-
  A TABLE's NUMBERS IN ORDER: Sorted.
-/
import Derived.Test.YtpifkinlaicliaaGreatDoorZTab
import Derived.Test.YtpifkinlaicliaaGreatDoorZApart
import Derived.Test.YtpifkinlaicliaaGreatDoorZDrawn
import Derived.Test.YtpifkinlaicliaaGreatDoorZDrawn4
import Derived.Shelf.Strings.Prefix
import Derived.Test.YtpifkinlaicliaaGreatDoorProg
namespace Go.Proofs.YtpifkinlaicliaaGreatDoor
open Go.RowKit Go.Sort
attribute [local go_sem] Old.refl Old.alloc Old.drew Old.setCell OldW.old

set_option maxRecDepth 100000 in
set_option maxHeartbeats 1600000 in
theorem Sorted1_any (l : List ByteArray) (hl : Named l) (i j c bx : Nat) (hi : i < l.length) (hj : j < l.length) (w : World) (hT : Tabs w) (hb : w.cell? ⟨bx, 0, none⟩ = some (.pointer (some ⟨c, 0, none⟩))) (ht : Tab w c l) :
    Calls Tryz.prog 29 #[.int .i64 i, .int .i64 j, .pointer (some ⟨bx, 0, none⟩)] w fun e w' => e = .returned (.int .i64 (cN l i j)) ∧ Old w w' := by
  obtain ⟨v, h0, hv⟩ := ht.names
  obtain ⟨b, off, cap, rfl, hc1, hc2, hN⟩ := hv.at' hi
  obtain ⟨b', off', cap', e, _, _, hM⟩ := hv.at' hj
  obtain ⟨e1, _, rfl⟩ := Value.slice.inj e
  obtain ⟨rfl, rfl⟩ : b = b' ∧ off = off' := by
    injection e1 with e1
    injection e1 with e1 e2
    exact ⟨e1, e2⟩
  have hb' := later hb
  have hi1 : (i : Int) < l.length := by omega
  have hj1 : (j : Int) < l.length := by omega
  have si := (hl.at hi).2.1
  have sj := (hl.at hj).2.1
  have Hc := Lib.hid (show cN l i j = compareT (nmAt l i) (nmAt l j) from rfl)
  have HC := Lib.hid (fun (V : OldW w) => Compare_any (nmAt l i) (nmAt l j) V.w' (hT.old V.old) (by omega) (by omega))
  clear e e1 hv ht hb si sj
  generalize nmAt l i = s at *
  generalize nmAt l j = t at *
  generalize compareT s t = r at *
  go_enter Tryz.func29, Tryz.ntmps29
  go_upto_region 1 with fail
  refine wp_region_old (Old.refl _) (by kernel_rfl) (by kernel_rfl) ?_
  repeat (go_big_quiet_step (with_reducible exact Calls.in_old (HC.out _)))
  refine wpQuiet_nil ?_
  rintro ⟨wq, hq⟩
  dsimp only
  go_wp2_with fail
  go_ret
  exact ⟨by rw [Hc.out]; rfl, hq⟩
/-! ### the row that is sorted -/
def finE (n : Nat) (x : Fin n) : Value := .int .i64 (x.val : Int)
theorem putCells_fin {n : Nat} [Inhabited (Fin n)] (off : Nat) (d : Array (Fin n)) (cur : Array Value) : putCells (finE n) off d cur = putCells (Value.int .i64) off (d.map fun x => (x.val : Int)) cur := by
  unfold putCells
  rw [Array.size_map]
  apply Array.ext_getElem?
  intro k
  rw [Array.getElem?_mapIdx, Array.getElem?_mapIdx]
  cases cur[k]? with
  | none => rfl
  | some v =>
    simp only [Option.map_some]
    by_cases h : off ≤ k ∧ k < off + d.size
    · rw [if_pos h, if_pos h]
      have h1 : k - off < d.size := by omega
      rw [getElem!_pos d (k - off) h1, getElem!_pos (d.map fun x => (x.val : Int)) (k - off) (by simpa using h1), Array.getElem_map]
      rfl
    · rw [if_neg h, if_neg h]
theorem sortWorld_fin {n : Nat} [Inhabited (Fin n)] (w : World) (g m : Nat) (d : Array (Fin n)) (os : Array Obj) : sortWorld (finE n) w g 0 m d os = grow (putRow (Value.int .i64) (Go.Sort.ahead w m) g 0 (d.toList.map fun x => (x.val : Int)).toArray) os := by
  unfold sortWorld putRow
  have : putCells (finE n) 0 d = putCells (Value.int .i64) 0 (d.toList.map fun x => (x.val : Int)).toArray := by
    funext cur
    rw [putCells_fin, show (d.toList.map fun x => (x.val : Int)).toArray = d.map fun x => (x.val : Int) from by apply Array.toList_inj.1; simp]
  rw [this]
theorem swo_of {c : Nat → Nat → Int} (h : OrdC c) {n : Nat} : SWO (ltOf fun x y : Fin n => c x.val y.val) where
  irrefl x := by
    have := h.anti x.val x.val
    unfold ltOf; rw [decide_eq_false_iff_not]; dsimp only; omega
  trans x y z h1 h2 := by
    unfold ltOf at *
    rw [decide_eq_true_iff] at *
    dsimp only at *
    have a1 := h.anti x.val y.val
    have a2 := h.anti y.val z.val
    have a3 := h.anti x.val z.val
    have t1 := h.trans x.val y.val z.val (by omega) (by omega)
    rcases Int.lt_or_eq_of_le t1 with e | e
    · exact e
    · have := h.trans z.val x.val y.val (by omega) (by omega); omega
  ntrans x y z h1 h2 := by
    unfold ltOf at *
    rw [decide_eq_false_iff_not] at *
    dsimp only at *
    have a1 := h.anti x.val y.val
    have a2 := h.anti y.val z.val
    have a3 := h.anti x.val z.val
    have := h.trans z.val y.val x.val (by omega) (by omega)
    omega
theorem sorted_fin {l : List ByteArray} (hl : Named l) {d : Array (Fin l.length)} [Inhabited (Fin l.length)] (hp : PermIn 0 l.length (List.finRange l.length).toArray d) (hs : SortedIn (ltOf fun x y : Fin l.length => cN l x.val y.val) 0 l.length d) :
    d.toList.map Fin.val = sortedL l := by
  have hsz : (List.finRange l.length).toArray.size = l.length := by simp
  obtain ⟨h1, _, h2⟩ := hp
  rw [hsz] at h1
  have hd : d.size = l.length := h1
  have h3 : d.toList.Perm (List.finRange l.length) := by
    have e1 := Array.extract_size (xs := d)
    rw [hd] at e1
    have e2 := Array.extract_size (xs := (List.finRange l.length).toArray)
    rw [hsz] at e2
    rw [e1, e2] at h2
    simpa using h2
  refine sortTo_unique (cN_ord l) hl.inj ?_ ?_
  · have h4 : (List.finRange l.length).map Fin.val = List.range l.length := by
      refine List.ext_getElem (by simp) fun i h5 h6 => by simp
    rw [← h4]
    exact h3.map Fin.val
  · rw [List.pairwise_map, List.pairwise_iff_getElem]
    intro i j hi hj hij
    have hi' : i < d.size := by simpa using hi
    have hj' : j < d.size := by simpa using hj
    have := hs i j (Nat.zero_le _) hij (by omega)
    rw [getElem!_pos d i hi', getElem!_pos d j hj'] at this
    unfold ltOf at this
    rw [decide_eq_false_iff_not] at this
    dsimp only at this
    have ha := (cN_ord l).anti (d[i]).val (d[j]).val
    simp only [Array.getElem_toList]
    omega

/-- the numbers below k -/
def upI (k : Nat) : List Int := (List.range k).map Int.ofNat
theorem upI_len (k : Nat) : (upI k).length = k := by simp [upI]
theorem upI_succ (k : Nat) : upI (k + 1) = upI k ++ [(k : Int)] := by simp [upI, List.range_succ]
/-- a list of numbers of a new row -/
def RetI (w w' : World) (e : Ending) (l : List Nat) : Prop := ∃ u, e = .returned u ∧ OwnI 3 w w' u (l.map Int.ofNat)
set_option maxRecDepth 100000 in
set_option maxHeartbeats 1600000 in
theorem Sorted_any (p : Option Addr) (l : List ByteArray) (hl : Named l) (w : World) (hT : Tabs w) (h : Hdl w p l) :
    Calls Tryz.prog 11 #[.pointer p] w fun e w' => RetI w w' e (sortedL l) ∧ Old w w' := by
  have hlen := hl.len
  have HT := Lib.hid hT
  have Hl := Lib.hid hl
  have HH := Lib.hid h
  have HL := Lib.hid (fun V (o : Old w V) => Len_any p l V (h.old o))
  clear hT hl h
  go_enter Tryz.func11, Tryz.ntmps11
  go_wp2_with (go_at_call 9; refine (HL.out _ ((Old.refl w).alloc _)).mono ?_; rintro e w1 ⟨rfl, o1⟩)
  have hbx : ∀ V, Old w1 V → V.cell? ⟨w.heap.size, 0, none⟩ = some (.pointer p) := fun V o => (o1.trans o).cell (by simp [go_sem])
  have ow1 : Old w w1 := ((Old.refl w).alloc _).trans o1
  have hs1 : w.heap.size + 1 ≤ w1.heap.size := by have := o1.size; simpa using this
  generalize hbx0 : w.heap.size = bx at *
  have Hbx := Lib.hid hbx
  clear hbx o1
  go_loopw [3, 7] (fun uv kv wr => ∃ k : Nat, k ≤ l.length ∧ kv = .int .i64 k ∧ OwnI 3 w1 wr uv (upI k) ∧ Old w1 wr) (fun _ kv _ => l.length - (intOf kv).toNat)
  case atStart => exact ⟨0, Nat.zero_le _, rfl, OwnI.nil _ _ _, Old.refl _⟩
  case round =>
    obtain ⟨k, hk, rfl, hown, ho⟩ := hrel
    have hul := upI_len k
    by_cases hlt : k < l.length
    · have hk1 : (k : Int) < l.length := by omega
      have Hup := Lib.hid (upI_succ k)
      go_wp2_with (at_builtin; refine wpList_append_ints (w0 := w1) rfl _ _ 36 rfl 3 Tryz.underlying36 infoInt _ (upI k) [(k : Int)] rfl (hown.alloc _) _ rfl (Ints.one _ _ (k : Int)) (by simp; omega) (ho.alloc _) ?_; intro v' w3 hown3 ho3 hg3)
      go_roundw
      case rel => exact ⟨k + 1, by omega, by go_num, by rw [Hup.out]; exact hown3, ho3⟩
      case measure => simp [intOf]; omega
    · obtain rfl : k = l.length := by omega
      have hk1 : ¬ (l.length : Int) < l.length := by omega
      obtain ⟨a, cap, rfl, hc1, hc2⟩ := ownsRow_form hown
      rw [upI_len] at hc1 hown
      rw [upI_len]
      have Hw := Lib.hid hown
      rcases Nat.eq_zero_or_pos l.length with h0 | h0
      · rw [h0] at hown ⊢
        have Hown := Lib.hid hown
        have H1 := Lib.hid (fun f (V : World) => Tryz.slices_SortFunc_none (α := Nat) a cap f V)
        have Hs : Hid ((sortedL l).map Int.ofNat = upI 0) := Lib.hid (by
          have : sortedL l = [] := List.eq_nil_of_length_eq_zero (by rw [sortedL_length, h0])
          rw [this]; rfl)
        clear hown Hw hul hk1
        go_wp2_with fail
        refine (H1.out _ _).mono ?_
        rintro e w4 ⟨rfl, rfl⟩
        go_wp2_with fail
        go_ret
        exact ⟨⟨_, rfl, by rw [Hs.out]; exact Hown.out.lower ow1.size⟩, ow1.trans ho⟩
      · obtain ⟨g, rfl, hg1, hg2⟩ := hown.block (by rw [upI_len]; exact h0)
        have hinh : Inhabited (Fin l.length) := ⟨⟨0, h0⟩⟩
        have hsz : (List.finRange l.length).toArray.size = l.length := by simp
        have hH : Holds (finE l.length) wr g 0 (List.finRange l.length).toArray := fun j hj => by
          have hj' : j < l.length := by rw [hsz] at hj; exact hj
          refine ⟨?_, hown.frozen _⟩
          rw [Nat.zero_add, hown.cell (k := j) (by rw [upI_len]; exact hj'), getElem!_pos (List.finRange l.length).toArray j hj]
          simp [ix, upI, finE, List.getD, hj']
        have hcmp : CmpLays1 Tryz.prog 29 #[.pointer (some ⟨bx, 0, none⟩)] (finE l.length) (fun x y => cN l x.val y.val) g 0 (List.finRange l.length).toArray.size wr := by
          intro m os dk hdk x y
          have hgW : wr.grownBy (sortWorld (finE l.length) wr g 0 m dk os) (some g) := by rw [sortWorld_fin]; exact put_grown _ _ _ _ _
          have oW : Old w1 (sortWorld (finE l.length) wr g 0 m dk os) := ho.grown hgW (fun k e => by cases e; exact hg1)
          rcases HH.out with ⟨_, e⟩ | ⟨c, rfl, ht⟩
          · rw [e] at h0; exact absurd h0 (Nat.lt_irrefl 0)
          · have h1 := Sorted1_any l Hl.out x.val y.val c bx x.isLt y.isLt _ (HT.out.old (ow1.trans oW)) (Hbx.out _ oW) (ht.old (ow1.trans oW))
            exact (Calls.drawn h1).mono fun e w' ⟨he, ho', hd'⟩ => ⟨he, Old.grows ho' hd'⟩
        have H1 := Lib.hid (Tryz.slices_SortFunc (finE l.length) (fun _ => rfl) (fun x y => cN l x.val y.val) (swo_of (cN_ord l)) 29 #[.pointer (some ⟨bx, 0, none⟩)] g 0 cap (List.finRange l.length).toArray wr (enters_of Tryz.func29 (by kernel_rfl) rfl) hcmp hH hg2 (by rw [hsz]; omega))
        rw [hsz] at H1
        clear hcmp hH hown hsz hul hk1
        go_wp2_with fail
        refine H1.out.mono ?_
        rintro e w4 ⟨rfl, d, m, os, hp, hs, hw4⟩
        have hfin := sorted_fin Hl.out hp hs
        have hld : (d.toList.map fun x => (x.val : Int)) = (sortedL l).map Int.ofNat := by rw [← hfin, List.map_map]; rfl
        have hgW : wr.grownBy w4 (some g) := by rw [hw4, sortWorld_fin]; exact put_grown _ _ _ _ _
        have hput := Hw.out.put m (d.toList.map fun x => (x.val : Int)) os (by rw [hld, List.length_map, sortedL_length, upI_len]) l.length (by rw [hld, List.length_map, sortedL_length]; exact Nat.le_refl _)
        rw [← sortWorld_fin, ← hw4, hld, List.take_of_length_le (by rw [List.length_map, sortedL_length]; exact Nat.le_refl _)] at hput
        have Hput := Lib.hid (hput.lower ow1.size)
        have Ho := Lib.hid (ow1.trans (ho.grown hgW (fun k e => by cases e; exact hg1)))
        clear hput hgW hld hfin hp hs hw4 H1 Hw
        go_wp2_with fail
        go_ret
        exact ⟨⟨_, rfl, Hput.out⟩, Ho.out⟩
end Go.Proofs.YtpifkinlaicliaaGreatDoor
/-
  A TABLE's NAMES IN ORDER, ONE BY ONE: Each, its iterator; what a round may turn.
-/

namespace Go.Proofs.YtpifkinlaicliaaGreatDoor
open Go.RowKit
attribute [local go_sem] Old.refl Old.alloc Old.drew Old.setCell OldW.old Oper.semAt_some

/-- the block of the slice that lies in box b -/
def ownOf (b : Nat) (W : World) : Option Nat := ((W.cell? ⟨b, 0, none⟩).getD undef).ownBlock
/-- what a round turns: two boxes, the row of the slice in the second one, and what is new -/
structure KpR (n b1 b2 : Nat) (W W' : World) : Prop where
  os : W'.os = W.os
  tape : W'.tape = W.tape
  output : W'.output = W.output
  size : W.heap.size ≤ W'.heap.size
  low : ∀ k, k < n → k ≠ b1 → k ≠ b2 → W'.heap[k]? = W.heap[k]?
  cells : ∀ (k : Nat) (o : Obj), W.heap[k]? = some o → o.isCells = true → k ≠ b1 → k ≠ b2 → ownOf b2 W ≠ some k → W'.heap[k]? = some o
  own : ownOf b2 W' = ownOf b2 W ∨ ∀ g, ownOf b2 W' = some g → W.heap.size ≤ g
theorem lt_of_heap {W : World} {k : Nat} {o : Obj} (h : W.heap[k]? = some o) : k < W.heap.size := (Array.getElem?_eq_some_iff.1 h).1
theorem KpR.refl (n b1 b2 : Nat) (W : World) : KpR n b1 b2 W W := ⟨rfl, rfl, rfl, Nat.le_refl _, fun _ _ _ _ => rfl, fun _ _ h _ _ _ _ => h, .inl rfl⟩
theorem KpR.trans {n b1 b2 : Nat} {A B C : World} (h : KpR n b1 b2 A B) (k : KpR n b1 b2 B C) : KpR n b1 b2 A C := by
  refine ⟨k.os.trans h.os, k.tape.trans h.tape, k.output.trans h.output, Nat.le_trans h.size k.size, fun i hi h1 h2 => (k.low i hi h1 h2).trans (h.low i hi h1 h2), fun i o ho hc h1 h2 h3 => ?_, ?_⟩
  · refine k.cells i o (h.cells i o ho hc h1 h2 h3) hc h1 h2 fun e => ?_
    rcases h.own with h4 | h4
    · exact h3 (h4 ▸ e)
    · have := h4 i e; have := lt_of_heap ho; omega
  · rcases k.own with k4 | k4
    · rcases h.own with h4 | h4
      · exact .inl (k4.trans h4)
      · exact .inr fun g e => h4 g (k4 ▸ e)
    · exact .inr fun g e => Nat.le_trans h.size (k4 g e)
theorem ownOf_block {b : Nat} {W W' : World} (h : W'.heap[b]? = W.heap[b]?) : ownOf b W' = ownOf b W := by
  unfold ownOf
  rw [World.cell?_of_block (a := ⟨b, 0, none⟩) h]
theorem KpR.of_old {n b1 b2 : Nat} {W W' : World} (o : Old W W') (hn : n ≤ W.heap.size) (hb : b2 < W.heap.size) : KpR n b1 b2 W W' :=
  ⟨o.os, o.tape, o.output, o.size, fun k hk _ _ => o.block k (by omega), fun k x h _ _ _ _ => (o.block k (lt_of_heap h)).trans h, .inl (ownOf_block (o.block b2 hb))⟩
theorem KpR.putObj {n b1 b2 : Nat} {w : World} (hn : n ≤ w.heap.size) (hb : b2 < w.heap.size) (W : World) (l : Nat) (o o' : Obj) (hl : w.heap.size ≤ l) (h : W.heap[l]? = some o) (hc : o.isCells = false) (_ : o.isWalk = false) : KpR n b1 b2 W (W.putObj l o') := by
  have hg := grownBy_putObj' W l o'
  have hll := lt_of_heap h
  refine ⟨hg.os, hg.tape, hg.output, hg.size, fun k hk _ _ => hg.block k (by omega) (fun e => by have := Option.some.inj e; omega), fun k x hx hxc _ _ _ => (hg.block k (lt_of_heap hx) fun e => ?_).trans hx, .inl (ownOf_block (hg.block b2 (by omega) (fun e => by have := Option.some.inj e; omega)))⟩
  rw [Option.some.inj e, h] at hx
  rw [← Option.some.inj hx, hc] at hxc
  cases hxc
theorem heap_setCell_ne (W : World) (b o : Nat) (v : Value) {k : Nat} (h : k ≠ b) : (W.setCell ⟨b, o, none⟩ v).heap[k]? = W.heap[k]? := Below.heap_setCell _ _ _ k h
theorem KpR.set1 {n b1 b2 : Nat} (W : World) (v : Value) (h : b2 ≠ b1) : KpR n b1 b2 W (W.setCell ⟨b1, 0, none⟩ v) :=
  ⟨rfl, rfl, rfl, by simp, fun k _ h1 _ => heap_setCell_ne W b1 0 v h1, fun k o ho _ h1 _ _ => (heap_setCell_ne W b1 0 v h1).trans ho, .inl (ownOf_block (heap_setCell_ne W b1 0 v h))⟩
theorem ownOf_set (W : World) (b : Nat) (v : Value) {u : Value} (h : W.cell? ⟨b, 0, none⟩ = some u) : ownOf b (W.setCell ⟨b, 0, none⟩ v) = v.ownBlock := by
  unfold ownOf
  rw [World.cell?_setCell_same _ _ _ h]
  rfl
/-- the slice made nil -/
theorem KpR.set2 {n b1 b2 : Nat} (W : World) (v : Value) {u : Value} (h : W.cell? ⟨b2, 0, none⟩ = some u) (hv : v.ownBlock = none) : KpR n b1 b2 W (W.setCell ⟨b2, 0, none⟩ v) :=
  ⟨rfl, rfl, rfl, by simp, fun k _ _ h2 => heap_setCell_ne W b2 0 v h2, fun k o ho _ _ h2 _ => (heap_setCell_ne W b2 0 v h2).trans ho, .inr fun g e => by rw [ownOf_set W b2 v h, hv] at e; cases e⟩
/-- the slice appended to -/
theorem KpR.append {n b1 b2 : Nat} {V W : World} {u v : Value} {g : Nat} (hc : V.cell? ⟨b2, 0, none⟩ = some u) (hc' : W.cell? ⟨b2, 0, none⟩ = some u) (hg : V.grownBy W u.ownBlock) (hn : n ≤ V.heap.size) (hu : ∀ k, u.ownBlock = some k → n ≤ k) (hv : v.ownBlock = some g) (ha : u.ownBlock = some g ∨ V.heap.size ≤ g) :
    KpR n b1 b2 V (W.setCell ⟨b2, 0, none⟩ v) := by
  have e : ownOf b2 V = u.ownBlock := by unfold ownOf; rw [hc]; rfl
  refine ⟨hg.os, hg.tape, hg.output, by simpa using hg.size, fun k hk _ h2 => (heap_setCell_ne W b2 0 v h2).trans (hg.block k (by omega) fun h => by have := hu k h.symm; omega), fun k o ho _ _ h2 h3 => (heap_setCell_ne W b2 0 v h2).trans ((hg.block k (lt_of_heap ho) fun h => h3 (e.trans h.symm)).trans ho), ?_⟩
  rw [ownOf_set W b2 v hc', hv, e]
  rcases ha with ha | ha
  · exact .inl ha.symm
  · exact .inr fun k hk => by cases hk; exact ha
theorem KpR.old {n b1 b2 : Nat} {w0 w w' : World} (h : KpR n b1 b2 w w') (ho : Old w0 w) (hn : w0.heap.size ≤ n) (h1 : w0.heap.size ≤ b1) (h2 : w0.heap.size ≤ b2) : Old w0 w' :=
  Below.trans ho (show Below w0.heap.size w w' from ⟨h.os, h.tape, h.output, h.size, fun k hk => h.low k (by omega) (by omega) (by omega)⟩)
theorem KpR.cell {n b1 b2 : Nat} {w w' : World} (h : KpR n b1 b2 w w') {p : Addr} (hp : p.block < n) (h1 : p.block ≠ b1) (h2 : p.block ≠ b2) : w'.cell? p = w.cell? p := World.cell?_of_block (h.low _ hp h1 h2)
theorem ownFrom_kpr {β : Type} {n b1 b2 B : Nat} {w0 : World} (hn : n ≤ w0.heap.size) (hb : b2 < w0.heap.size) (hB : w0.heap.size ≤ B) : OwnFrom B (fun (_ : β) W => KpR n b1 b2 w0 W) := by
  intro _ W W' row hs hg hr
  refine ⟨hg.os.trans hs.os, hg.tape.trans hs.tape, hg.output.trans hs.output, Nat.le_trans hs.size hg.size, fun k hk h1 h2 => (hg.block k (by have := hs.size; omega) fun e => ?_).trans (hs.low k hk h1 h2), fun k o ho hc h1 h2 h3 => ?_, ?_⟩
  · have := (hr k e.symm).1; omega
  · have h4 := hs.cells k o ho hc h1 h2 h3
    refine (hg.block k (lt_of_heap h4) fun e => ?_).trans h4
    have := (hr k e.symm).1; have := lt_of_heap ho; omega
  · rw [ownOf_block (hg.block b2 (by have := hs.size; omega) fun e => by have := (hr b2 e.symm).1; omega)]
    exact hs.own

set_option maxHeartbeats 400000 in
theorem Each_any (p : Option Addr) (w : World) :
    Calls Tryz.prog 34 #[.pointer p] w fun e w' => e = .returned (.func (.func 66) #[] #[.pointer (some ⟨w.heap.size, 0, none⟩)]) ∧ w.alloc (.cells #[.pointer p] 24) = w' := by
  have hmf : ∀ (fn : Fn) (first cap : Array Value) (w : World), (Instr.makeFunc fn first cap).run Tryz.prog w = .ok (.func fn first cap) w := fun _ _ _ _ => rfl
  go_enter Tryz.func34, Tryz.ntmps34
  go_wp2
  go_ret
  exact ⟨rfl, rfl⟩

theorem take_snoc {l : List Nat} {k : Nat} (h : k < l.length) : l.take (k + 1) = l.take k ++ [l.getD k 0] := by
  rw [List.take_succ_eq_append_getElem h]
  simp [List.getD, h]
def nmV (l : List ByteArray) (x : Fin l.length) : Array Value := #[.int .i64 (x.val : Int), .string (nmAt l x.val)]
set_option maxRecDepth 100000 in
set_option maxHeartbeats 2000000 in
theorem Each1_stops (n : Nat) (p : Option Addr) (l : List ByteArray) (hl : Named l) (w0 w : World) (n₁ b1 b2 bx : Nat) (hH : Hdl w0 p l) (hT : Tabs w0) (h0w : Old w0 w) (hn1 : n₁ ≤ w.heap.size) (hn0 : w0.heap.size ≤ n₁) (hb1 : w0.heap.size ≤ b1) (hb2 : w0.heap.size ≤ b2)
    (hb1' : b1 < w.heap.size) (hb2' : b2 < w.heap.size) (hbx : bx < n₁) (hx1 : bx ≠ b1) (hx2 : bx ≠ b2) (hcx : w.cell? ⟨bx, 0, none⟩ = some (.pointer p)) (hown : ownOf b2 w = none) :
    SeqStopsK Fence.wide n Tryz.prog 66 #[.pointer (some ⟨bx, 0, none⟩)] (nmV l) (KpR n₁ b1 b2) (fun xs => xs.map Fin.val = sortedL l) (fun _ => True) 1001 w := fun y J Jx W hW hJ hJx hY h0 => by
  have hlen := hl.len
  have hcxW : W.cell? ⟨bx, 0, none⟩ = some (.pointer p) := (Below.cell hW (p := ⟨bx, 0, none⟩) (by simp; omega)).trans hcx
  have o0W : Old w0 W := h0w.trans hW
  have hownW : ownOf b2 W = none := (ownOf_block (hW.block b2 hb2')).trans hown
  have hWs := hW.size
  have HS := Lib.hid (Sorted_any p l hl W (hT.old o0W) (hH.old o0W))
  have HH := Lib.hid hH
  have hsl := sortedL_length l
  have Hlt := Lib.hid (fun i (h : i ∈ sortedL l) => sortedL_lt h)
  clear hT hH hl hcx hown
  generalize sortedL l = sl at *
  refine callsIn_of_wp Tryz.func66 rfl trivial ?_ rfl
  simp only [Tryz.ntmps66, List.size_toArray, List.length_cons, List.length_nil, Nat.reduceAdd, Nat.reduceSub, Array.replicate_succ, Array.replicate_zero, List.push_toArray, List.append_toArray, List.nil_append, List.cons_append]
  gi_wp2
  refine ⟨trivial, fun hd => by simp [Fence.wide] at hd, ?_⟩
  refine (callsIn_wide.2 HS.out).mono ?_
  rintro e w1 ⟨⟨u, rfl, hu⟩, o1⟩
  obtain ⟨a, cap, rfl, hc1, hc2⟩ := ownsRow_form hu
  have hul : (sl.map Int.ofNat).length = l.length := by rw [List.length_map, hsl]
  rw [hul] at hc1 hu ⊢
  have hJ1 : J [] w1 := hJ _ _ _ none h0 (Old.grownBy o1 none) (fun r e => by cases e)
  have hs1 := o1.size
  have hown1 : ownOf b2 w1 = none := (ownOf_block (o1.block b2 (by omega))).trans hownW
  have o01 : Old w0 w1 := o0W.trans o1
  have hc1x : w1.cell? ⟨bx, 0, none⟩ = some (.pointer p) := o1.cell hcxW
  clear HS hcxW hownW h0
  rcases Nat.eq_zero_or_pos l.length with hz | hz
  · have hi : ¬ (0 : Int) < l.length := by omega
    rw [hz]
    gi_wp2
    gi_loopw [8] (fun kv wr => kv = .int .i64 0 ∧ J [] wr) (fun _ _ => 0)
    case atStart => exact ⟨rfl, hJ1⟩
    case round =>
      obtain ⟨rfl, hJr⟩ := hrel
      gi_wp2
      go_end0
      refine ⟨⟨_, rfl⟩, .inl ⟨[], ?_, hJr⟩⟩
      rw [List.eq_nil_of_length_eq_zero (show sl.length = 0 by omega)]
      rfl
  · obtain ⟨g, rfl, hg1, hg2⟩ := hu.block (by rw [hul]; exact hz)
    obtain ⟨O, hO, hOc⟩ : ∃ O, w1.heap[g]? = some O ∧ O.isCells = true := by
      rcases hu.2 with ⟨e, _⟩ | ⟨g', c', cur, e, _, hgc, _⟩
      · cases e
      · simp at e
        obtain ⟨e1, _⟩ := e
        rw [e1]
        exact ⟨_, hgc, rfl⟩
    have hcell : ∀ V : World, V.heap[g]? = some O → ∀ k, k < l.length → V.cell? ⟨g, k, none⟩ = some (.int .i64 (sl.getD k 0 : Nat)) := fun V hV k hk => by
      rw [World.cell?_of_block (a := ⟨g, k, none⟩) (hV.trans hO.symm), hu.cell (k := k) (by rw [hul]; exact hk)]
      simp [ix, List.getD, show k < sl.length from by omega]
    rcases HH.out with ⟨_, e⟩ | ⟨c, rfl, ht⟩
    · rw [e] at hz; exact absurd hz (Nat.lt_irrefl 0)
    obtain ⟨v, ht0, hv⟩ := ht.names
    obtain ⟨bN, offN, capN, rfl, hcN1, hcN2, _⟩ := hv.at' hz
    have hvN : ∀ i, i < l.length → ∀ V, Old w0 V → V.cell? ⟨bN, offN + i, none⟩ = some (.string (nmAt l i)) := fun i hi => by
      obtain ⟨b', off', cap', e, _, _, hM⟩ := hv.at' hi
      obtain ⟨e1, _, rfl⟩ := Value.slice.inj e
      injection e1 with e1
      injection e1 with e1 e2
      subst e1; subst e2
      exact hM
    have Hcell := Lib.hid hcell
    have HvN := Lib.hid hvN
    have Ht0 := Lib.hid ht0
    have Hc1x := Lib.hid hc1x
    clear hu ht ht0 hv hcell hvN hc1x hc1 hc2 HH
    gi_wp2
    gi_loopw [8] (fun kv wr => ∃ (k : Nat) (pre : List (Fin l.length)), k ≤ l.length ∧ kv = .int .i64 k ∧ Hid (pre.map Fin.val = sl.take k) ∧ J pre wr ∧ KpR n₁ b1 b2 w1 wr ∧ wr.heap[g]? = some O ∧ ownOf b2 wr ≠ some g) (fun kv _ => l.length - (intOf kv).toNat)
    case atStart => exact ⟨0, [], Nat.zero_le _, rfl, Lib.hid rfl, hJ1, KpR.refl _ _ _ _, hO, by rw [hown1]; simp⟩
    case round =>
      obtain ⟨k, pre, hk, rfl, hpre, hJk, hkept, hOr, hne⟩ := hrel
      by_cases hlt : k < l.length
      · have hk1 : (k : Int) < l.length := by omega
        have hmem : sl.getD k 0 ∈ sl := by
          rw [show sl.getD k 0 = sl[k]'(by omega) from by simp [List.getD, show k < sl.length from by omega]]
          exact List.getElem_mem _
        have hil := Hlt.out _ hmem
        have hgk := Hcell.out wr hOr k hlt
        have Hsn := Lib.hid (take_snoc (l := sl) (k := k) (by omega))
        have o0r : Old w0 wr := hkept.old o01 hn0 hb1 hb2
        have htr := Ht0.out wr o0r
        have hbr : wr.cell? ⟨bx, 0, none⟩ = some (.pointer (some ⟨c, 0, none⟩)) := (hkept.cell (p := ⟨bx, 0, none⟩) hbx hx1 hx2).trans Hc1x.out
        generalize hi0 : sl.getD k 0 = i at *
        have hNr := HvN.out i hil wr o0r
        have hi1 : (i : Int) < l.length := by omega
        clear hmem
        obtain ⟨fn, tmps, assign, body, hy, hR⟩ := hY _ ⟨i, hil⟩ wr hJk (by have := congrArg List.length hpre.out; rw [List.length_map, List.length_take] at this; omega)
        unfold nmV at hy
        dsimp only at hy
        gi_wp2
        refine ⟨fun hd => by simp [Fence.wide] at hd, ?_⟩
        refine hR.mono ?_
        rintro e W3 (⟨rfl, hJ3, hk3⟩ | ⟨rfl, hJx3⟩)
        · gi_wp2
          go_roundw
          case rel =>
            refine ⟨k + 1, _, by omega, by go_num, Lib.hid (by rw [Hsn.out, List.map_append, hpre.out]; rfl), hJ3, hkept.trans hk3, hk3.cells g O hOr hOc (by omega) (by omega) hne, ?_⟩
            rcases hk3.own with h | h
            · rw [h]; exact hne
            · intro e; have := h g e; have := lt_of_heap hOr; omega
          case measure => simp [intOf]; omega
        · gi_wp2
          refine bodyPost_ret (results_none rfl _ _ _) rfl ?_
          exact ⟨⟨_, rfl⟩, .inr ⟨_, trivial, hJx3⟩⟩
      · obtain rfl : k = l.length := by omega
        have hk1 : ¬ (l.length : Int) < l.length := by omega
        have ht : sl.take l.length = sl := List.take_of_length_le (by omega)
        gi_wp2
        go_end0
        exact ⟨⟨_, rfl⟩, .inl ⟨_, by rw [hpre.out, ht], hJk⟩⟩
end Go.Proofs.YtpifkinlaicliaaGreatDoor
/-
  THE SHELF's CONTRACT OF strings.HasPrefix AT THIS DUMP, laid by the shelf's own tools.
-/


namespace Go.Proofs
open Go.Shelf
def Tryz.lays99_ren : Go.Shelf.Ren := ⟨fun | 99 => 35 | 206 => 67 | n => n, fun | 9 => 9 | 4 => 4 | 3 => 3 | n => n, fun | n => n⟩
theorem Tryz.lays99 : Go.Proofs.Lays.n99 Tryz.prog Tryz.lays99_ren := {
  mixed := by kernel_rfl
  f99 := Tryz.func35.trans (congrArg some (by kernel_rfl))
  f206 := Tryz.func67.trans (congrArg some (by kernel_rfl))
  t3 := Tryz.underlying3
  a3 := Tryz.isAgg3
  z3 := Tryz.sizeOf3
  v3 := Tryz.zeroValue3
  t4 := Tryz.underlying4
  a4 := Tryz.isAgg4
  z4 := Tryz.sizeOf4
  v4 := Tryz.zeroValue4
  t9 := Tryz.underlying9
  a9 := Tryz.isAgg9
  z9 := Tryz.sizeOf9
  v9 := Tryz.zeroValue9 }
open Go.RowKit Go.Lib in
/-- strings.HasPrefix: "HasPrefix reports whether the string s begins with prefix.": IT RETURNS 'Lib.hasPrefix s prefix'; the world is as it was. (LAID: no walk: one application.) -/
theorem Tryz.strings_HasPrefix (s p : ByteArray) (w : World) :
    Calls Tryz.prog 35 #[.string s, .string p] w fun e w' => e = .returned (.bool (Lib.hasPrefix s.data.toList p.data.toList)) ∧ w' = w := Any.strings_HasPrefix Tryz.lays99 s p w
end Go.Proofs
