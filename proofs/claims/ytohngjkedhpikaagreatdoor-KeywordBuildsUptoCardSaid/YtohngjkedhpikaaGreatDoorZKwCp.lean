/-
  A ROW OF THE CALL's OWN, SORTED BY slices.SortFunc: over no program.
-/
import Derived.Test.YtohngjkedhpikaaGreatDoorZTextWords
import Derived.Test.YtohngjkedhpikaaGreatDoorZBase
import Derived.Test.YtohngjkedhpikaaGreatDoorZDrawn4
import Derived.Shelf.SlSortCmp.WholeK
import Derived.Shelf.SlSortCmp.Whole1
import Derived.Test.YtohngjkedhpikaaGreatDoorZTextCodesD
import Derived.Test.YtohngjkedhpikaaGreatDoorZKwP
import Derived.Test.YtohngjkedhpikaaGreatDoorZKwW
import Derived.Test.YtohngjkedhpikaaGreatDoorZKwQ
import Derived.Deep.LoopGhost
import Derived.Deep.DeepCutAuto
import Derived.StillTailTactics
import Derived.BigQuiet
namespace Go.Proofs.YtohngjkedhpikaaGreatDoor
open Go Go.RowKit Go.Sort

theorem swo_sub {α β : Type} {c : β → β → Int} (h : OrdA c) (f : α → β) : SWO (ltOf fun x y : α => c (f x) (f y)) where
  irrefl x := by
    have := h.anti (f x) (f x)
    unfold ltOf; rw [decide_eq_false_iff_not]; dsimp only; omega
  trans x y z h1 h2 := by
    unfold ltOf at *
    rw [decide_eq_true_iff] at *
    dsimp only at *
    have a1 := h.anti (f x) (f y)
    have a2 := h.anti (f y) (f z)
    have a3 := h.anti (f x) (f z)
    have t1 := h.trans (f x) (f y) (f z) (by omega) (by omega)
    rcases Int.lt_or_eq_of_le t1 with e | e
    · exact e
    · have := h.trans (f z) (f x) (f y) (by omega) (by omega); omega
  ntrans x y z h1 h2 := by
    unfold ltOf at *
    rw [decide_eq_false_iff_not] at *
    dsimp only at *
    have a1 := h.anti (f x) (f y)
    have a2 := h.anti (f y) (f z)
    have a3 := h.anti (f x) (f z)
    have := h.trans (f z) (f y) (f x) (by omega) (by omega)
    omega
theorem permIn_perm {α : Type} [Inhabited α] {d d' : Array α} (h : PermIn 0 d.size d d') : d'.toList.Perm d.toList := by
  obtain ⟨h1, _, h2⟩ := h
  have e1 := Array.extract_size (xs := d')
  rw [h1] at e1
  have e2 := Array.extract_size (xs := d)
  rw [e1, e2] at h2
  exact h2
theorem sorted_srt {α β : Type} [Inhabited α] {c : β → β → Int} (h : OrdA c) (f : α → β) {d d' : Array α} (hp : PermIn 0 d.size d d') (hs : SortedIn (ltOf fun x y : α => c (f x) (f y)) 0 d.size d') (hd : ∀ i j, i ∈ d.toList.map f → j ∈ d.toList.map f → c i j = 0 → i = j) :
    d'.toList.map f = srt c (d.toList.map f) := by
  have hsz : d'.size = d.size := hp.1
  refine srt_unique h hd ((permIn_perm hp).map f) ?_
  rw [List.pairwise_map, List.pairwise_iff_getElem]
  intro i j hi hj hij
  have hi' : i < d'.size := by simpa using hi
  have hj' : j < d'.size := by simpa using hj
  have := hs i j (Nat.zero_le _) hij (by omega)
  rw [getElem!_pos d' i hi', getElem!_pos d' j hj'] at this
  unfold ltOf at this
  rw [decide_eq_false_iff_not] at this
  dsimp only at this
  have ha := h.anti (f d'[i]) (f d'[j])
  simp only [Array.getElem_toList]
  omega
/-- the world behind the sort: the row's cells are F -/
def vput (w : World) (k g : Nat) (F : Array Value) (os : Array Obj) : World := grow (putRow id (Go.Sort.ahead w k) g 0 F) os
theorem vput_heap {w : World} {k g : Nat} {F : Array Value} {os : Array Obj} {cur : Array Value} {E : TypeId} {fr : Nat × Nat} (hg : w.heap[g]? = some (.cells cur E fr)) :
    (vput w k g F os).heap[g]? = some (.cells (putCells id 0 F cur) E fr) := by
  have hlt : g < w.heap.size := (Array.getElem?_eq_some_iff.1 hg).1
  unfold vput
  rw [heap_grow_old _ _ (by simpa using hlt)]
  unfold putRow mapBlock
  simp only [heap_ahead, Array.getElem?_modify, if_true, hg]
  rfl
theorem vput_other {w : World} {k g i : Nat} {F : Array Value} {os : Array Obj} (hi : i < w.heap.size) (hne : i ≠ g) : (vput w k g F os).heap[i]? = w.heap[i]? := by
  unfold vput
  rw [heap_grow_old _ _ (by simpa using hi)]
  unfold putRow mapBlock
  simp only [heap_ahead, Array.getElem?_modify]
  rw [if_neg (Ne.symm hne)]
theorem vput_grown (w : World) (k g : Nat) (F : Array Value) (os : Array Obj) : w.grownBy (vput w k g F os) (some g) :=
  ⟨rfl, rfl, rfl, by simp [vput], fun i hi hne => vput_other hi (fun e => hne (by rw [e]))⟩
theorem putCells_id {F cur : Array Value} (hd : F.size ≤ cur.size) : (putCells id 0 F cur).toList.take F.size = F.toList := by
  refine List.ext_getElem? fun j => ?_
  rcases Nat.lt_or_ge j F.size with h | h
  · rw [List.getElem?_take_of_lt h, Array.getElem?_toList]
    unfold putCells
    rw [Array.getElem?_mapIdx, Array.getElem?_eq_getElem (by omega), Option.map_some, if_pos ⟨Nat.zero_le _, by omega⟩, Nat.sub_zero, getElem!_pos F j h]
    simp [h]
  · rw [List.getElem?_eq_none (by rw [List.length_take]; omega), List.getElem?_eq_none (by simpa using h)]
section
variable {β : Type} {c : Enc β}
theorem OwnS.vput {E : TypeId} {w0 w : World} {g n cap : Nat} {l l' : List β} (h : OwnS c E w0 w (.slice (some ⟨g, 0, none⟩) n cap) l) (k : Nat) {F : Array Value} (os : Array Obj) (hF : F.toList = c.all l') (hl : l'.length = l.length) :
    OwnS c E w0 (vput w k g F os) (.slice (some ⟨g, 0, none⟩) n cap) l' := by
  obtain rfl := h.len
  have hFs : F.size = l'.length * c.k := by rw [← Array.length_toList, hF, Enc.all_length]
  obtain ⟨h1, h2⟩ := h
  rcases h2 with ⟨hv, _⟩ | ⟨g', cap', cur, hv, hb, hg, hnc, hcm, hcs, htk⟩
  · cases hv
  · obtain ⟨rfl, rfl⟩ : g = g' ∧ cap = cap' := by
      injection hv with a1 a2 a3
      injection a1 with a1
      injection a1 with a1
      exact ⟨a1, a3⟩
    refine ⟨Enc.all_length l', .inr ⟨g, cap, _, by rw [hl], hb, vput_heap hg, by omega, hcm, by simp [putCells]; simpa using hcs, ?_⟩⟩
    have hle : F.size ≤ cur.size := by
      have h3 : l.length * c.k ≤ cap * c.k := Nat.mul_le_mul_right _ hnc
      try simp at hcs
      rw [hFs, hl]
      omega
    rw [← hF, ← hFs]
    exact putCells_id hle
theorem OwnS.holds {E : TypeId} {w0 w : World} {g n cap : Nat} {l : List β} (h : OwnS c E w0 w (.slice (some ⟨g, 0, none⟩) n cap) l) {F : Array Value} (hF : F.toList = c.all l) : Go.Sort.Holds id w g 0 F := fun j hj => by
  obtain rfl := h.len
  have hFs : F.size = l.length * c.k := by rw [← Array.length_toList, hF, Enc.all_length]
  refine ⟨?_, World.ownsRow.frozenAt h _⟩
  rw [Nat.zero_add, World.ownsRow.cellAt h j (by omega), getElem!_pos F j hj, ← hF, Array.getElem?_toList, Array.getElem?_eq_getElem hj]
  rfl
/-- the flat row is the records' cells -/
theorem flat_all {α : Type} [Inhabited α] (f : α → β) (d : Array α) : (flatK (fun x => c.enc (f x)) c.k d).toList = c.all (d.toList.map f) := by
  refine List.ext_getElem? fun t => ?_
  rw [Array.getElem?_toList]
  rcases Nat.lt_or_ge t (d.size * c.k) with h | h
  · have hk : 0 < c.k := by
      rcases Nat.eq_zero_or_pos c.k with e | e
      · rw [e] at h; omega
      · exact e
    have hi : t / c.k < d.size := (Nat.div_lt_iff_lt_mul hk).2 h
    have hj : t % c.k < c.k := Nat.mod_lt _ hk
    have hg := get_flatK (fun x => c.enc (f x)) c.k d t h
    rw [getElem!_pos (flatK (fun x => c.enc (f x)) c.k d) t (by rw [size_flatK]; exact h)] at hg
    rw [Array.getElem?_eq_getElem (by rw [size_flatK]; exact h), hg]
    have e1 : (d.toList.map f)[t / c.k]? = some (f d[t / c.k]!) := by
      rw [List.getElem?_map, Array.getElem?_toList, Array.getElem?_eq_getElem hi, getElem!_pos d _ hi]; rfl
    have e2 : (c.enc (f d[t / c.k]!))[t % c.k]? = some (c.enc (f d[t / c.k]!))[t % c.k]! := by
      have hk2 : t % c.k < (c.enc (f d[t / c.k]!)).length := by rw [c.len]; exact hj
      rw [List.getElem?_eq_getElem hk2, getElem!_pos (c.enc (f d[t / c.k]!)) (t % c.k) hk2]
    have := Enc.all_at e1 e2
    rw [show t / c.k * c.k + t % c.k = t from Nat.div_add_mod' t c.k] at this
    exact this.symm
  · rw [Array.getElem?_eq_none (by rw [size_flatK]; exact h), List.getElem?_eq_none (by rw [Enc.all_length]; simpa using h)]
theorem sortWorldK_vput {α : Type} [Inhabited α] (f : α → β) (w : World) (g n : Nat) (d : Array α) (os : Array Obj) : sortWorldK (fun x => c.enc (f x)) c.k w g 0 n d os = vput w n g (flatK (fun x => c.enc (f x)) c.k d) os := rfl
end
/-- at elements of one cell -/
theorem sortWorld_vput {α : Type} [Inhabited α] (enc : α → Value) (w : World) (g n : Nat) (d : Array α) (os : Array Obj) : sortWorld enc w g 0 n d os = vput w n g (d.map enc) os := by
  unfold sortWorld vput putRow
  have : putCells enc 0 d = putCells id 0 (d.map enc) := by
    funext cur
    unfold putCells
    apply Array.ext_getElem?
    intro k
    rw [Array.getElem?_mapIdx, Array.getElem?_mapIdx, Array.size_map]
    cases cur[k]? with
    | none => rfl
    | some v =>
      simp only [Option.map_some]
      by_cases h : 0 ≤ k ∧ k < 0 + d.size
      · rw [if_pos h, if_pos h]
        have h1 : k - 0 < d.size := by omega
        rw [getElem!_pos d (k - 0) h1, getElem!_pos (d.map enc) (k - 0) (by simpa using h1), Array.getElem_map]
        rfl
      · rw [if_neg h, if_neg h]
  rw [this]
theorem holds_one {α : Type} [Inhabited α] {enc : α → Value} {w : World} {g : Nat} {d : Array α} (h : Go.Sort.Holds id w g 0 (d.map enc)) : Go.Sort.Holds enc w g 0 d := fun j hj => by
  have := h j (by simpa using hj)
  rw [getElem!_pos (d.map enc) j (by simpa using hj), Array.getElem_map] at this
  rw [getElem!_pos d j hj]
  exact this
end Go.Proofs.YtohngjkedhpikaaGreatDoor
/-
  slices.SortFunc: A ROW OF TEXTS, A ROW OF PLACES, of the call's own: in order.
-/





namespace Go.Proofs.YtohngjkedhpikaaGreatDoor
open Go Go.RowKit Go.Sort
attribute [local go_sem] Old.refl Old.alloc Old.drew Old.setCell OldW.old

set_option maxRecDepth 100000 in
/-- a row of texts is laid in order -/
theorem sortS_any (l : List ByteArray) (c : ByteArray → ByteArray → Int) (hc : OrdA c) (hd : ∀ i j, i ∈ l → j ∈ l → c i j = 0 → i = j) (p : ByteArray → Prop) (hp : ∀ s ∈ l, p s) (f : Nat) (cb : Array Value) (eg : ∀ args w, (callFunc f args).run Tryz.prog w = .ok (.enter f args) w)
    (w0 w : World) (a : Option Addr) (cap : Nat) (hown : OwnS txE 9 w0 w (.slice a l.length cap) l) (hl : l.length < 4611686018427387904)
    (hcmp : ∀ W : World, w.grownBy W (Value.slice a l.length cap).ownBlock → ∀ s t, p s → p t → Calls Tryz.prog f (#[.string s, .string t] ++ cb) W fun e w' => e = .returned (.int .i64 (c s t)) ∧ Old W w') :
    Calls Tryz.prog 45 #[.slice a l.length cap, .func (.func f) #[] cb] w fun e w' => e = .returned (.tuple #[]) ∧ OwnS txE 9 w0 w' (.slice a l.length cap) (srt c l) ∧ w.grownBy w' (Value.slice a l.length cap).ownBlock := by
  rcases Nat.eq_zero_or_pos l.length with h0 | h0
  · obtain rfl : l = [] := List.eq_nil_of_length_eq_zero h0
    refine (Tryz.slices_SortFunc_none_str (α := Nat) a cap _ w).mono ?_
    rintro e w' ⟨rfl, rfl⟩
    exact ⟨rfl, hown, World.grownBy.refl _ _⟩
  · obtain ⟨g, rfl, hg1, hg2⟩ := hown.block h0
    have hob : (Value.slice (some ⟨g, 0, none⟩) l.length cap).ownBlock = some g := rfl
    rw [hob] at hcmp ⊢
    have hinh : Inhabited {s : ByteArray // p s} := ⟨⟨l[0], hp _ (List.getElem_mem h0)⟩⟩
    obtain ⟨d, hdl⟩ : ∃ d : Array {s : ByteArray // p s}, d.toList.map Subtype.val = l := ⟨(l.pmap Subtype.mk hp).toArray, by simp [List.map_pmap]⟩
    have hds : d.size = l.length := by rw [← hdl]; simp
    have hF : (d.map fun x : {s : ByteArray // p s} => Value.string x.val).toList = txE.all l := by rw [txE_all, ← hdl]; simp
    have hH : Go.Sort.Holds (fun x : {s : ByteArray // p s} => Value.string x.val) w g 0 d := holds_one (hown.holds hF)
    have hC : CmpLays1 Tryz.prog f cb (fun x : {s : ByteArray // p s} => Value.string x.val) (fun x y => c x.val y.val) g 0 d.size w := by
      intro m os dk hdk x y
      have hgW : w.grownBy (sortWorld (fun x : {s : ByteArray // p s} => Value.string x.val) w g 0 m dk os) (some g) := by rw [sortWorld_vput]; exact vput_grown _ _ _ _ _
      exact (Calls.drawn (hcmp _ hgW x.val y.val x.property y.property)).mono fun e w' ⟨he, ho, hdr⟩ => ⟨he, Old.grows ho hdr⟩
    have H1 := Tryz.slices_SortFunc_str (fun x : {s : ByteArray // p s} => Value.string x.val) (fun _ => rfl) (fun x y => c x.val y.val) (swo_sub hc Subtype.val) f cb g 0 cap d w eg hC hH hg2 (by rw [hds]; exact hl)
    rw [hds] at H1
    refine H1.mono ?_
    rintro e w' ⟨rfl, d', n, os, hpm, hs, hw'⟩
    rw [← hds] at hpm hs
    have hsrt := sorted_srt hc Subtype.val hpm hs (by rw [hdl]; exact hd)
    rw [hdl] at hsrt
    rw [sortWorld_vput] at hw'
    subst hw'
    refine ⟨rfl, ?_, vput_grown _ _ _ _ _⟩
    exact hown.vput n os (by rw [txE_all, ← hsrt]; simp) (srt_length l)
def plcE : Enc Pl := ⟨2, fun p => [.string p.1, .string p.2], fun _ => rfl, fun x u hu => by
  simp only [List.mem_cons, List.not_mem_nil, or_false] at hu
  rcases hu with rfl | rfl <;> rfl⟩
set_option maxRecDepth 100000 in
/-- a row of places is laid in order -/
theorem sortK_any (l : List Pl) (c : Pl → Pl → Int) (hc : OrdA c) (hd : ∀ i j, i ∈ l → j ∈ l → c i j = 0 → i = j) (p : Pl → Prop) (hp : ∀ s ∈ l, p s) (f : Nat) (cb : Array Value) (eg : ∀ args w, (callFunc f args).run Tryz.prog w = .ok (.enter f args) w)
    (w0 w : World) (a : Option Addr) (cap : Nat) (hown : OwnS plcE 89 w0 w (.slice a l.length cap) l) (hl : l.length < 4611686018427387904)
    (hcmp : ∀ W : World, w.grownBy W (Value.slice a l.length cap).ownBlock → ∀ s t, p s → p t → Calls Tryz.prog f (#[.agg #[.string s.1, .string s.2], .agg #[.string t.1, .string t.2]] ++ cb) W fun e w' => e = .returned (.int .i64 (c s t)) ∧ Old W w') :
    Calls Tryz.prog 43 #[.slice a l.length cap, .func (.func f) #[] cb] w fun e w' => e = .returned (.tuple #[]) ∧ OwnS plcE 89 w0 w' (.slice a l.length cap) (srt c l) ∧ w.grownBy w' (Value.slice a l.length cap).ownBlock := by
  rcases Nat.eq_zero_or_pos l.length with h0 | h0
  · obtain rfl : l = [] := List.eq_nil_of_length_eq_zero h0
    refine (Tryz.slices_SortFunc_none_pl (α := Nat) a cap _ w).mono ?_
    rintro e w' ⟨rfl, rfl⟩
    exact ⟨rfl, hown, World.grownBy.refl _ _⟩
  · obtain ⟨g, rfl, hg1, hg2⟩ := hown.block h0
    have hob : (Value.slice (some ⟨g, 0, none⟩) l.length cap).ownBlock = some g := rfl
    rw [hob] at hcmp ⊢
    have hinh : Inhabited {s : Pl // p s} := ⟨⟨l[0], hp _ (List.getElem_mem h0)⟩⟩
    obtain ⟨d, hdl⟩ : ∃ d : Array {s : Pl // p s}, d.toList.map Subtype.val = l := ⟨(l.pmap Subtype.mk hp).toArray, by simp [List.map_pmap]⟩
    have hds : d.size = l.length := by rw [← hdl]; simp
    have hF : (flatK (fun x : {s : Pl // p s} => plcE.enc x.val) plcE.k d).toList = plcE.all l := by rw [← hdl]; exact flat_all Subtype.val d
    have hH : HoldsK (fun x : {s : Pl // p s} => plcE.enc x.val) 2 w g 0 d := hown.holds hF
    have hC : CmpLays Tryz.prog f cb (fun x : {s : Pl // p s} => plcE.enc x.val) 2 (fun x y => c x.val y.val) g 0 d.size w := by
      intro m os dk hdk x y
      have hgW : w.grownBy (sortWorldK (fun x : {s : Pl // p s} => plcE.enc x.val) 2 w g 0 m dk os) (some g) := vput_grown _ _ _ _ _
      exact (Calls.drawn (hcmp _ hgW x.val y.val x.property y.property)).mono fun e w' ⟨he, ho, hdr⟩ => ⟨he, Old.grows ho hdr⟩
    have H1 := Tryz.slices_SortFunc_pl (fun x : {s : Pl // p s} => plcE.enc x.val) (fun _ => rfl) (fun x v hv => plcE.one x.val v hv) (fun x y => c x.val y.val) (swo_sub hc Subtype.val) f cb g 0 cap d w eg hC hH hg2 (by rw [hds]; exact hl)
    rw [hds] at H1
    refine H1.mono ?_
    rintro e w' ⟨rfl, d', n, os, hpm, hs, hw'⟩
    rw [← hds] at hpm hs
    have hsrt := sorted_srt hc Subtype.val hpm hs (by rw [hdl]; exact hd)
    rw [hdl] at hsrt
    subst hw'
    refine ⟨rfl, ?_, vput_grown _ _ _ _ _⟩
    exact hown.vput n os (by rw [← hsrt]; exact flat_all (c := plcE) Subtype.val d') (srt_length l)
end Go.Proofs.YtohngjkedhpikaaGreatDoor
/-
  KEYWORD, L: Follow: whom one comes to.
-/







namespace Go.Proofs.YtohngjkedhpikaaGreatDoor
open Go.RowKit Go.Maps
attribute [local go_sem] Old.refl Old.alloc Old.drew Old.setCell OldW.old

/-- the ways of the first entries -/
def wayE (l : List En) : Nat → ByteArray → List ByteArray
  | 0, _ => []
  | n + 1, t => wayE l n t ++ (match l[n]? with | some e => if e.sub = noB ∧ foldS e.term = t then e.sees.map foldS else [] | none => [])
theorem mem_wayE {l : List En} {n : Nat} {t b : ByteArray} : b ∈ wayE l n t ↔ ∃ (i : Nat) (e : En), i < n ∧ l[i]? = some e ∧ e.sub = noB ∧ foldS e.term = t ∧ ∃ s ∈ e.sees, foldS s = b := by
  induction n with
  | zero => simp [wayE]
  | succ n ih =>
    rw [wayE, List.mem_append, ih]
    constructor
    · rintro (⟨i, e, hi, h⟩ | h)
      · exact ⟨i, e, by omega, h⟩
      · split at h
        · rename_i e he
          split at h
          · rename_i hp
            obtain ⟨s, h1, h2⟩ := List.mem_map.1 h
            exact ⟨n, e, by omega, he, hp.1, hp.2, s, h1, h2⟩
          · simp at h
        · simp at h
    · rintro ⟨i, e, hi, he, h1, h2, s, h3, h4⟩
      by_cases k : i = n
      · subst k
        right
        rw [he]
        simp only
        rw [if_pos ⟨h1, h2⟩]
        exact List.mem_map.2 ⟨s, h3, h4⟩
      · left; exact ⟨i, e, by omega, he, h1, h2, s, h3, h4⟩
theorem wayE_edge {l : List En} {a b : ByteArray} : b ∈ wayE l l.length a ↔ edgeL l a b := by
  rw [mem_wayE]
  constructor
  · rintro ⟨i, e, _, he, h⟩
    exact ⟨e, List.mem_of_getElem? he, h⟩
  · rintro ⟨e, he, h⟩
    obtain ⟨i, hi⟩ := List.getElem?_of_mem he
    exact ⟨i, e, (List.getElem?_eq_some_iff.1 hi).1, hi, h⟩
theorem wayE_skip {l : List En} {n : Nat} {e : En} (he : l[n]? = some e) (h : ¬ e.sub = noB) : wayE l (n + 1) = wayE l n := by
  funext t
  rw [wayE, he]
  simp only
  rw [if_neg (fun k => h k.1), List.append_nil]
theorem wayE_own {l : List En} {n : Nat} {e : En} (he : l[n]? = some e) (h : e.sub = noB) : wayE l (n + 1) = fun q => if q = foldS e.term then wayE l n (foldS e.term) ++ e.sees.map foldS else wayE l n q := by
  funext t
  rw [wayE, he]
  simp only
  by_cases k : t = foldS e.term
  · subst k
    rw [if_pos rfl, if_pos ⟨h, rfl⟩]
  · rw [if_neg k, if_neg (fun x => k x.2.symm), List.append_nil]
/-- how many sees the first entries have -/
def seesN (l : List En) (n : Nat) : Nat := ((l.take n).flatMap En.sees).length
theorem seesN_succ {l : List En} {n : Nat} {e : En} (he : l[n]? = some e) : seesN l (n + 1) = seesN l n + e.sees.length := by
  unfold seesN
  rw [List.take_add_one, he]
  simp
theorem seesN_le (l : List En) (n : Nat) : seesN l n ≤ (l.flatMap En.sees).length := by
  have h : l.flatMap En.sees = (l.take n).flatMap En.sees ++ (l.drop n).flatMap En.sees := by rw [← List.flatMap_append, List.take_append_drop]
  unfold seesN
  rw [h, List.length_append]
  omega
theorem seesN_all (l : List En) : seesN l l.length = (l.flatMap En.sees).length := by rw [seesN, List.take_length]
theorem wayE_length (l : List En) (n : Nat) (t : ByteArray) (hn : n ≤ l.length) : (wayE l n t).length ≤ seesN l n := by
  induction n with
  | zero => simp [wayE]
  | succ n ih =>
    have he := List.getElem?_eq_getElem (show n < l.length by omega)
    have h := ih (by omega)
    rw [seesN_succ he, wayE, he, List.length_append]
    simp only
    split
    · rw [List.length_map]; omega
    · simp; omega
theorem wayE_small {l : List En} {n : Nat} (h : ∀ e ∈ l, ∀ x ∈ e.sees, (foldS x).size ≤ 4194304) (t : ByteArray) : ∀ s ∈ wayE l n t, s.size ≤ 4194304 := fun s hs => by
  obtain ⟨i, e, _, he, _, _, x, hx, rfl⟩ := mem_wayE.1 hs
  exact h e (List.mem_of_getElem? he) x hx
theorem WS.cong {w0 w : World} {wb n : Nat} {V : ByteArray → Value} {L L' : ByteArray → List ByteArray} (h : WS w0 w wb n V L) (e : L = L') : WS w0 w wb n V L' := e ▸ h
/-- one see is put into the ways -/
theorem WS.add {wA w4 w5 : World} {wb nW : Nat} {V : ByteArray → Value} {t x : ByteArray} {wl : ByteArray → List ByteArray} {X : List ByteArray} (h : WS wA w4 wb nW V (fun q => if q = t then X else wl q)) (hx : x.size ≤ 4194304) {g cap : Nat}
    (hown : OwnS txE 9 wA w5 (.slice (some ⟨g, 0, none⟩) (X.length + [x].length) cap) (X ++ [x])) (hg : w4.grownBy w5 (V t).ownBlock) (hat : (V t).ownBlock = some g ∨ g = w4.heap.size) {kl : Lit} (hk : keyOf Tryz.prog 9 (.string t) = some kl) (hn : nW < 9000000000000000000) :
    ∃ w6, (Instr.mapUpdate 102 (.map (some wb)) (.string t) (.slice (some ⟨g, 0, none⟩) (X.length + 1) cap)).run Tryz.prog w5 = .ok () w6 ∧ WS wA w6 wb (nW + 1) (fun q => if q = t then .slice (some ⟨g, 0, none⟩) (X.length + 1) cap else V q) (fun q => if q = t then X ++ [x] else wl q) ∧ w5.grownBy w6 (some wb) := by
  have hk5 : KeptX (fun g => (V t).ownBlock = some g) w4 w5 := KeptX.of_grown hg (fun g e => e)
  have hmp5 := h.mp.block (hk5.block wb h.mp.lt (fun e => absurd (World.ownsRow.lt (h.row t) wb e).1 (Nat.not_le_of_lt h.lo)))
  obtain ⟨w6, hrun, hm, hg6⟩ := hmp5.upd (string_keyed Tryz.underlying9) (fun _ _ => str_kv) Tryz.underlying102 (by omega) hk (.slice (some ⟨g, 0, none⟩) (X.length + 1) cap)
  refine ⟨w6, hrun, ?_, hg6⟩
  have := h.put (t := t) (x := x) (u := .slice (some ⟨g, 0, none⟩) (X.length + 1) cap) (g := g) hx (by simpa using hown) hg rfl hat hm hg6
  refine this.cong ?_
  funext q
  by_cases e : q = t
  · rw [if_pos e, if_pos e]; simp
  · rw [if_neg e, if_neg e]; simp [e]
theorem WS.lookW {w0 w : World} {wb n : Nat} {V : ByteArray → Value} {L : ByteArray → List ByteArray} (h : WS w0 w wb n V L) {t : ByteArray} {kl : Lit} (hk : keyOf Tryz.prog 9 (.string t) = some kl) :
    ∀ W, Old w W → (Instr.lookup 102 (.map (some wb)) (.string t) false).run Tryz.prog W = .ok (V t) W := fun W o => by
  have := (h.old o).mp.look (string_keyed Tryz.underlying9) Tryz.underlying102 zeroTxsK hk
  rw [WS.look (h.old o)] at this
  exact this
end Go.Proofs.YtohngjkedhpikaaGreatDoor
/-
  KEYWORD, CP, PLAIN: what Check is to answer, from what was found on the way.
-/

namespace Go.Proofs.YtohngjkedhpikaaGreatDoor
variable {l : List En} {t : Int}
theorem CheckK_long (h : 10000 < l.length) : CheckK l t 0 2 := by unfold CheckK; rw [if_pos h]; exact ⟨rfl, rfl⟩
theorem CheckK_one (h : ¬ 10000 < l.length) {i : Nat} {e : En} (h1 : l[i]? = some e) (h2 : ¬ oneK l t i e = 0) (h3 : ∀ (j : Nat) (o : En), j < i → l[j]? = some o → oneK l t j o = 0) : CheckK l t i (oneK l t i e) := by
  unfold CheckK
  rw [if_neg h, if_pos ⟨i, e, h1, h2⟩]
  exact ⟨i, e, h1, h2, rfl, rfl, h3⟩
theorem CheckK_see (h : ¬ 10000 < l.length) (h0 : ∀ (j : Nat) (o : En), l[j]? = some o → oneK l t j o = 0) {i k : Nat} {e : En} {s : ByteArray} (h1 : l[i]? = some e) (h2 : e.sees[k]? = some s) (h3 : ¬ seeK l e s = 0)
    (h4 : ∀ (j : Nat) (o : En) (m : Nat) (u : ByteArray), j < i → l[j]? = some o → o.sees[m]? = some u → seeK l o u = 0) (h5 : ∀ (m : Nat) (u : ByteArray), m < k → e.sees[m]? = some u → seeK l e u = 0) : CheckK l t i (seeK l e s) := by
  unfold CheckK
  rw [if_neg h, if_neg (fun ⟨j, o, a, b⟩ => b (h0 j o a)), if_pos ⟨i, e, k, s, h1, h2, h3⟩]
  exact ⟨i, e, k, s, h1, h2, h3, rfl, rfl, h4, h5⟩
theorem CheckK_ok (h : ¬ 10000 < l.length) (h0 : ∀ (j : Nat) (o : En), l[j]? = some o → oneK l t j o = 0) (h1 : ∀ (j : Nat) (o : En) (m : Nat) (u : ByteArray), l[j]? = some o → o.sees[m]? = some u → seeK l o u = 0) : CheckK l t 0 0 := by
  unfold CheckK
  rw [if_neg h, if_neg (fun ⟨j, o, a, b⟩ => b (h0 j o a)), if_neg (fun ⟨j, o, m, u, a, b, c⟩ => c (h1 j o m u a b))]
  exact ⟨rfl, rfl⟩
theorem oneK_alone {i : Nat} {e : En} (h : ¬ aloneK e t = 0) : oneK l t i e = aloneK e t := by unfold oneK; rw [if_pos h]
theorem oneK_first {e : En} (h : aloneK e t = 0) : oneK l t 0 e = 0 := by
  unfold oneK
  rw [if_neg (fun k => k h), if_neg]
  rintro ⟨j, o, e1, _⟩
  omega
theorem oneK_pair {j : Nat} {e o : En} (h : aloneK e t = 0) (ho : l[j]? = some o) (hp : pairK o e) : oneK l t (j + 1) e = 0 := by
  unfold oneK
  rw [if_neg (fun k => k h), if_neg]
  rintro ⟨i, o', e1, h1, h2⟩
  obtain rfl : j = i := by omega
  obtain rfl := Option.some.inj (ho.symm.trans h1)
  exact h2 hp
theorem oneK_form {j : Nat} {e o : En} (h : aloneK e t = 0) (ho : l[j]? = some o) (hp : ¬ pairK o e) : oneK l t (j + 1) e = 31 := by
  unfold oneK
  rw [if_neg (fun k => k h), if_pos ⟨j, o, rfl, ho, hp⟩]
theorem oneK_aloneK {i : Nat} {e : En} (h : oneK l t i e = 0) : aloneK e t = 0 := Classical.byContradiction fun k => by rw [oneK_alone k] at h; exact k h
theorem aloneK_sub {e : En} (h : aloneK e t = 0) (hs : ¬ e.sees = []) : e.sub = noB := by
  refine Classical.byContradiction fun k => ?_
  unfold aloneK at h
  split at h
  · cases h
  · split at h
    · cases h
    · split at h
      · cases h
      · split at h
        · cases h
        · rename_i h4
          exact h4 (.inr ⟨k, hs⟩)
theorem seeK_none {e : En} {s : ByteArray} (h : ¬ hasL l (foldS s)) : seeK l e s = 91 := by unfold seeK; rw [if_pos h]
theorem seeK_ring {e : En} {s : ByteArray} (h : hasL l (foldS s)) (h2 : Rch (edgeL l) (foldS s) (foldS e.term)) : seeK l e s = 92 := by unfold seeK; rw [if_neg (fun k => k h), if_pos h2]
theorem seeK_ok {e : En} {s : ByteArray} (h : hasL l (foldS s)) (h2 : ¬ Rch (edgeL l) (foldS s) (foldS e.term)) : seeK l e s = 0 := by unfold seeK; rw [if_neg (fun k => k h), if_neg h2]
/-- all sees count where only entries without a sub have any -/
theorem wayE_all {n : Nat} {e : En} (he : l[n]? = some e) (h : ¬ e.sees = [] → e.sub = noB) : wayE l (n + 1) = fun q => if q = foldS e.term then wayE l n (foldS e.term) ++ e.sees.map foldS else wayE l n q := by
  by_cases k : e.sub = noB
  · exact wayE_own he k
  · have hs : e.sees = [] := Classical.byContradiction fun x => k (h x)
    rw [wayE_skip he k, hs]
    funext q
    by_cases hq : q = foldS e.term
    · rw [if_pos hq, hq]; simp
    · rw [if_neg hq]
/-- which terms the first entries have -/
def hasE (l : List En) (n : Nat) (t : ByteArray) : Option Value := if (l.take n).any (fun e => decide (foldS e.term = t)) then some (.int .i64 1) else none
theorem hasE_succ {n : Nat} {e : En} (he : l[n]? = some e) : hasE l (n + 1) = fun q => if q = foldS e.term then some (.int .i64 1) else hasE l n q := by
  funext q
  unfold hasE
  rw [List.take_add_one, he, Option.toList_some, List.any_append]
  by_cases e1 : q = foldS e.term
  · simp [e1]
  · have e2 : decide (foldS e.term = q) = false := decide_eq_false fun k => e1 k.symm
    simp only [List.any_cons, List.any_nil, e2, Bool.or_false, if_neg e1]
theorem hasE_in {t : ByteArray} (h : hasL l t) : hasE l l.length t = some (.int .i64 1) := if_pos (by
  rw [List.take_length, List.any_eq_true]
  obtain ⟨e, h1, h2⟩ := h
  exact ⟨e, h1, by simp [h2]⟩)
theorem hasE_out {t : ByteArray} (h : ¬ hasL l t) : hasE l l.length t = none := if_neg fun k => by
  rw [List.take_length, List.any_eq_true] at k
  obtain ⟨e, h1, h2⟩ := k
  exact h ⟨e, h1, by simpa using h2⟩
end Go.Proofs.YtohngjkedhpikaaGreatDoor
