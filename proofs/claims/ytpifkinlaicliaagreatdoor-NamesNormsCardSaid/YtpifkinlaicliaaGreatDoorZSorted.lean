/-
  A TABLE's NUMBERS IN ORDER: Sorted.
-/
import Derived.Test.YtpifkinlaicliaaGreatDoorZTab
import Derived.Test.YtpifkinlaicliaaGreatDoorZApart
import Derived.Test.YtpifkinlaicliaaGreatDoorZSortF
import Derived.Test.YtpifkinlaicliaaGreatDoorZDrawn
import Derived.Test.YtpifkinlaicliaaGreatDoorZDrawn4
namespace Go.Proofs.YtpifkinlaicliaaGreatDoor
open Go.RowKit Go.Sort
attribute [local go_sem] Old.refl Old.alloc Old.drew Old.setCell OldW.old

set_option maxRecDepth 100000 in
set_option maxHeartbeats 1600000 in
theorem Sorted1_any (l : List ByteArray) (hl : Named l) (i j c bx : Nat) (hi : i < l.length) (hj : j < l.length) (w : World) (hT : Tabs w) (hb : w.cell? ⟨bx, 0, none⟩ = some (.pointer (some ⟨c, 0, none⟩))) (ht : Tab w c l) :
    Calls Tryz.prog 29 #[.int .i64 i, .int .i64 j, .pointer (some ⟨bx, 0, none⟩)] w fun e w' => e = .returned (.int .i64 (cN l i j)) ∧ Old w w' := by
  obtain ⟨v, h0, hv⟩ := ht.names
  obtain ⟨b, off, cap, rfl, hc1, hc2, hN⟩ := hv.at' hi
  obtain ⟨b', off', cap', e, _, _, hM⟩ := hv.at' hj
  obtain ⟨e1, _, rfl⟩ := Value.slice.inj e
  obtain ⟨rfl, rfl⟩ : b = b' ∧ off = off' := by
    injection e1 with e1
    injection e1 with e1 e2
    exact ⟨e1, e2⟩
  have hb' := later hb
  have hi1 : (i : Int) < l.length := by omega
  have hj1 : (j : Int) < l.length := by omega
  have si := (hl.at hi).2.1
  have sj := (hl.at hj).2.1
  have Hc := Lib.hid (show cN l i j = compareT (nmAt l i) (nmAt l j) from rfl)
  have HC := Lib.hid (fun (V : OldW w) => Compare_any (nmAt l i) (nmAt l j) V.w' (hT.old V.old) (by omega) (by omega))
  clear e e1 hv ht hb si sj
  generalize nmAt l i = s at *
  generalize nmAt l j = t at *
  generalize compareT s t = r at *
  go_enter Tryz.func29, Tryz.ntmps29
  go_upto_region 1 with fail
  refine wp_region_old (Old.refl _) (by kernel_rfl) (by kernel_rfl) ?_
  repeat (go_big_quiet_step (with_reducible exact Calls.in_old (HC.out _)))
  refine wpQuiet_nil ?_
  rintro ⟨wq, hq⟩
  dsimp only
  go_wp2_with fail
  go_ret
  exact ⟨by rw [Hc.out]; rfl, hq⟩
/-! ### the row that is sorted -/
def finE (n : Nat) (x : Fin n) : Value := .int .i64 (x.val : Int)
theorem putCells_fin {n : Nat} [Inhabited (Fin n)] (off : Nat) (d : Array (Fin n)) (cur : Array Value) : putCells (finE n) off d cur = putCells (Value.int .i64) off (d.map fun x => (x.val : Int)) cur := by
  unfold putCells
  rw [Array.size_map]
  apply Array.ext_getElem?
  intro k
  rw [Array.getElem?_mapIdx, Array.getElem?_mapIdx]
  cases cur[k]? with
  | none => rfl
  | some v =>
    simp only [Option.map_some]
    by_cases h : off ≤ k ∧ k < off + d.size
    · rw [if_pos h, if_pos h]
      have h1 : k - off < d.size := by omega
      rw [getElem!_pos d (k - off) h1, getElem!_pos (d.map fun x => (x.val : Int)) (k - off) (by simpa using h1), Array.getElem_map]
      rfl
    · rw [if_neg h, if_neg h]
theorem sortWorld_fin {n : Nat} [Inhabited (Fin n)] (w : World) (g m : Nat) (d : Array (Fin n)) (os : Array Obj) : sortWorld (finE n) w g 0 m d os = grow (putRow (Value.int .i64) (Go.Sort.ahead w m) g 0 (d.toList.map fun x => (x.val : Int)).toArray) os := by
  unfold sortWorld putRow
  have : putCells (finE n) 0 d = putCells (Value.int .i64) 0 (d.toList.map fun x => (x.val : Int)).toArray := by
    funext cur
    rw [putCells_fin, show (d.toList.map fun x => (x.val : Int)).toArray = d.map fun x => (x.val : Int) from by apply Array.toList_inj.1; simp]
  rw [this]
theorem swo_of {c : Nat → Nat → Int} (h : OrdC c) {n : Nat} : SWO (ltOf fun x y : Fin n => c x.val y.val) where
  irrefl x := by
    have := h.anti x.val x.val
    unfold ltOf; rw [decide_eq_false_iff_not]; dsimp only; omega
  trans x y z h1 h2 := by
    unfold ltOf at *
    rw [decide_eq_true_iff] at *
    dsimp only at *
    have a1 := h.anti x.val y.val
    have a2 := h.anti y.val z.val
    have a3 := h.anti x.val z.val
    have t1 := h.trans x.val y.val z.val (by omega) (by omega)
    rcases Int.lt_or_eq_of_le t1 with e | e
    · exact e
    · have := h.trans z.val x.val y.val (by omega) (by omega); omega
  ntrans x y z h1 h2 := by
    unfold ltOf at *
    rw [decide_eq_false_iff_not] at *
    dsimp only at *
    have a1 := h.anti x.val y.val
    have a2 := h.anti y.val z.val
    have a3 := h.anti x.val z.val
    have := h.trans z.val y.val x.val (by omega) (by omega)
    omega
theorem sorted_fin {l : List ByteArray} (hl : Named l) {d : Array (Fin l.length)} [Inhabited (Fin l.length)] (hp : PermIn 0 l.length (List.finRange l.length).toArray d) (hs : SortedIn (ltOf fun x y : Fin l.length => cN l x.val y.val) 0 l.length d) :
    d.toList.map Fin.val = sortedL l := by
  have hsz : (List.finRange l.length).toArray.size = l.length := by simp
  obtain ⟨h1, _, h2⟩ := hp
  rw [hsz] at h1
  have hd : d.size = l.length := h1
  have h3 : d.toList.Perm (List.finRange l.length) := by
    have e1 := Array.extract_size (xs := d)
    rw [hd] at e1
    have e2 := Array.extract_size (xs := (List.finRange l.length).toArray)
    rw [hsz] at e2
    rw [e1, e2] at h2
    simpa using h2
  refine sortTo_unique (cN_ord l) hl.inj ?_ ?_
  · have h4 : (List.finRange l.length).map Fin.val = List.range l.length := by
      refine List.ext_getElem (by simp) fun i h5 h6 => by simp
    rw [← h4]
    exact h3.map Fin.val
  · rw [List.pairwise_map, List.pairwise_iff_getElem]
    intro i j hi hj hij
    have hi' : i < d.size := by simpa using hi
    have hj' : j < d.size := by simpa using hj
    have := hs i j (Nat.zero_le _) hij (by omega)
    rw [getElem!_pos d i hi', getElem!_pos d j hj'] at this
    unfold ltOf at this
    rw [decide_eq_false_iff_not] at this
    dsimp only at this
    have ha := (cN_ord l).anti (d[i]).val (d[j]).val
    simp only [Array.getElem_toList]
    omega

/-- the numbers below k -/
def upI (k : Nat) : List Int := (List.range k).map Int.ofNat
theorem upI_len (k : Nat) : (upI k).length = k := by simp [upI]
theorem upI_succ (k : Nat) : upI (k + 1) = upI k ++ [(k : Int)] := by simp [upI, List.range_succ]
/-- a list of numbers of a new row -/
def RetI (w w' : World) (e : Ending) (l : List Nat) : Prop := ∃ u, e = .returned u ∧ OwnI 3 w w' u (l.map Int.ofNat)
set_option maxRecDepth 100000 in
set_option maxHeartbeats 1600000 in
theorem Sorted_any (p : Option Addr) (l : List ByteArray) (hl : Named l) (w : World) (hT : Tabs w) (h : Hdl w p l) :
    Calls Tryz.prog 11 #[.pointer p] w fun e w' => RetI w w' e (sortedL l) ∧ Old w w' := by
  have hlen := hl.len
  have HT := Lib.hid hT
  have Hl := Lib.hid hl
  have HH := Lib.hid h
  have HL := Lib.hid (fun V (o : Old w V) => Len_any p l V (h.old o))
  clear hT hl h
  go_enter Tryz.func11, Tryz.ntmps11
  go_wp2_with (go_at_call 9; refine (HL.out _ ((Old.refl w).alloc _)).mono ?_; rintro e w1 ⟨rfl, o1⟩)
  have hbx : ∀ V, Old w1 V → V.cell? ⟨w.heap.size, 0, none⟩ = some (.pointer p) := fun V o => (o1.trans o).cell (by simp [go_sem])
  have ow1 : Old w w1 := ((Old.refl w).alloc _).trans o1
  have hs1 : w.heap.size + 1 ≤ w1.heap.size := by have := o1.size; simpa using this
  generalize hbx0 : w.heap.size = bx at *
  have Hbx := Lib.hid hbx
  clear hbx o1
  go_loopw [3, 7] (fun uv kv wr => ∃ k : Nat, k ≤ l.length ∧ kv = .int .i64 k ∧ OwnI 3 w1 wr uv (upI k) ∧ Old w1 wr) (fun _ kv _ => l.length - (intOf kv).toNat)
  case atStart => exact ⟨0, Nat.zero_le _, rfl, OwnI.nil _ _ _, Old.refl _⟩
  case round =>
    obtain ⟨k, hk, rfl, hown, ho⟩ := hrel
    have hul := upI_len k
    by_cases hlt : k < l.length
    · have hk1 : (k : Int) < l.length := by omega
      have Hup := Lib.hid (upI_succ k)
      go_wp2_with (at_builtin; refine wpList_append_ints (w0 := w1) rfl _ _ 36 rfl 3 Tryz.underlying36 infoInt _ (upI k) [(k : Int)] rfl (hown.alloc _) _ rfl (Ints.one _ _ (k : Int)) (by simp; omega) (ho.alloc _) ?_; intro v' w3 hown3 ho3 hg3)
      go_roundw
      case rel => exact ⟨k + 1, by omega, by go_num, by rw [Hup.out]; exact hown3, ho3⟩
      case measure => simp [intOf]; omega
    · obtain rfl : k = l.length := by omega
      have hk1 : ¬ (l.length : Int) < l.length := by omega
      obtain ⟨a, cap, rfl, hc1, hc2⟩ := ownsRow_form hown
      rw [upI_len] at hc1 hown
      rw [upI_len]
      have Hw := Lib.hid hown
      rcases Nat.eq_zero_or_pos l.length with h0 | h0
      · rw [h0] at hown ⊢
        have Hown := Lib.hid hown
        have H1 := Lib.hid (fun f (V : World) => Tryz.slices_SortFunc_none (α := Nat) a cap f V)
        have Hs : Hid ((sortedL l).map Int.ofNat = upI 0) := Lib.hid (by
          have : sortedL l = [] := List.eq_nil_of_length_eq_zero (by rw [sortedL_length, h0])
          rw [this]; rfl)
        clear hown Hw hul hk1
        go_wp2_with fail
        refine (H1.out _ _).mono ?_
        rintro e w4 ⟨rfl, rfl⟩
        go_wp2_with fail
        go_ret
        exact ⟨⟨_, rfl, by rw [Hs.out]; exact Hown.out.lower ow1.size⟩, ow1.trans ho⟩
      · obtain ⟨g, rfl, hg1, hg2⟩ := hown.block (by rw [upI_len]; exact h0)
        have hinh : Inhabited (Fin l.length) := ⟨⟨0, h0⟩⟩
        have hsz : (List.finRange l.length).toArray.size = l.length := by simp
        have hH : Holds (finE l.length) wr g 0 (List.finRange l.length).toArray := fun j hj => by
          have hj' : j < l.length := by rw [hsz] at hj; exact hj
          refine ⟨?_, hown.frozen _⟩
          rw [Nat.zero_add, hown.cell (k := j) (by rw [upI_len]; exact hj'), getElem!_pos (List.finRange l.length).toArray j hj]
          simp [ix, upI, finE, List.getD, hj']
        have hcmp : CmpLays1 Tryz.prog 29 #[.pointer (some ⟨bx, 0, none⟩)] (finE l.length) (fun x y => cN l x.val y.val) g 0 (List.finRange l.length).toArray.size wr := by
          intro m os dk hdk x y
          have hgW : wr.grownBy (sortWorld (finE l.length) wr g 0 m dk os) (some g) := by rw [sortWorld_fin]; exact put_grown _ _ _ _ _
          have oW : Old w1 (sortWorld (finE l.length) wr g 0 m dk os) := ho.grown hgW (fun k e => by cases e; exact hg1)
          rcases HH.out with ⟨_, e⟩ | ⟨c, rfl, ht⟩
          · rw [e] at h0; exact absurd h0 (Nat.lt_irrefl 0)
          · have h1 := Sorted1_any l Hl.out x.val y.val c bx x.isLt y.isLt _ (HT.out.old (ow1.trans oW)) (Hbx.out _ oW) (ht.old (ow1.trans oW))
            exact (Calls.drawn h1).mono fun e w' ⟨he, ho', hd'⟩ => ⟨he, Old.grows ho' hd'⟩
        have H1 := Lib.hid (Tryz.slices_SortFunc (finE l.length) (fun _ => rfl) (fun x y => cN l x.val y.val) (swo_of (cN_ord l)) 29 #[.pointer (some ⟨bx, 0, none⟩)] g 0 cap (List.finRange l.length).toArray wr (enters_of Tryz.func29 (by kernel_rfl) rfl) hcmp hH hg2 (by rw [hsz]; omega))
        rw [hsz] at H1
        clear hcmp hH hown hsz hul hk1
        go_wp2_with fail
        refine H1.out.mono ?_
        rintro e w4 ⟨rfl, d, m, os, hp, hs, hw4⟩
        have hfin := sorted_fin Hl.out hp hs
        have hld : (d.toList.map fun x => (x.val : Int)) = (sortedL l).map Int.ofNat := by rw [← hfin, List.map_map]; rfl
        have hgW : wr.grownBy w4 (some g) := by rw [hw4, sortWorld_fin]; exact put_grown _ _ _ _ _
        have hput := Hw.out.put m (d.toList.map fun x => (x.val : Int)) os (by rw [hld, List.length_map, sortedL_length, upI_len]) l.length (by rw [hld, List.length_map, sortedL_length]; exact Nat.le_refl _)
        rw [← sortWorld_fin, ← hw4, hld, List.take_of_length_le (by rw [List.length_map, sortedL_length]; exact Nat.le_refl _)] at hput
        have Hput := Lib.hid (hput.lower ow1.size)
        have Ho := Lib.hid (ow1.trans (ho.grown hgW (fun k e => by cases e; exact hg1)))
        clear hput hgW hld hfin hp hs hw4 H1 Hw
        go_wp2_with fail
        go_ret
        exact ⟨⟨_, rfl, Hput.out⟩, Ho.out⟩
end Go.Proofs.YtpifkinlaicliaaGreatDoor
