/-
  THE SHELF's CONTRACTS AT THIS DUMP, laid by the shelf's own tools (lay-shelf.mjs, lay-plain.mjs): slices.Sort and slices.Compact at integers: no condition beside what each states.
-/
import Derived.Shelf.Sort.Plain
import Derived.Ground.Names2Prog
import Derived.Shelf.Slices.CompactI
import Derived.Shelf.Slices.In.SortNone
import Derived.Test.YtohngjkedhpikaaGreatDoorProg
import Derived.Test.YtohngjkedhpikaaGreatDoorZTextWords
import Derived.Sort.Grow
import Derived.Lib.SlicesCompact
import Derived.Test.YtohngjkedhpikaaGreatDoorZKwQ
import Derived.Test.YtohngjkedhpikaaGreatDoorZKwH
import Derived.Lib.RowBridge
namespace Go.Proofs
open Go.Shelf
def Tryz.lays189_ren : Go.Shelf.Ren := ⟨fun | 189 => 52 | 125 => 88 | 257 => 102 | 128 => 126 | 129 => 127 | 294 => 143 | 295 => 144 | 296 => 145 | 297 => 146 | 298 => 147 | 299 => 148 | 216 => 149 | 300 => 150 | 301 => 151 | 328 => 175 | 329 => 163 | 330 => 164 | 331 => 176 | 332 => 177 | 215 => 170 | 343 => 184 | n => n, fun | 28 => 42 | 3 => 3 | 46 => 135 | 0 => 0 | 51 => 183 | 53 => 185 | 4 => 4 | 183 => 177 | 182 => 176 | 131 => 173 | 5 => 5 | 9 => 9 | 218 => 219 | 222 => 223 | 228 => 245 | 229 => 63 | n => n, fun | n => n⟩
theorem Tryz.lays189 : Go.Proofs.Lays.n189 Tryz.prog Tryz.lays189_ren := {
  mixed := by kernel_rfl
  f125 := Tryz.func88.trans (congrArg some (by kernel_rfl))
  f128 := Tryz.func126.trans (congrArg some (by kernel_rfl))
  f129 := Tryz.func127.trans (congrArg some (by kernel_rfl))
  f189 := Tryz.func52.trans (congrArg some (by kernel_rfl))
  f215 := Tryz.func170.trans (congrArg some (by kernel_rfl))
  f216 := Tryz.func149.trans (congrArg some (by kernel_rfl))
  f257 := Tryz.func102.trans (congrArg some (by kernel_rfl))
  f294 := Tryz.func143.trans (congrArg some (by kernel_rfl))
  f295 := Tryz.func144.trans (congrArg some (by kernel_rfl))
  f296 := Tryz.func145.trans (congrArg some (by kernel_rfl))
  f297 := Tryz.func146.trans (congrArg some (by kernel_rfl))
  f298 := Tryz.func147.trans (congrArg some (by kernel_rfl))
  f299 := Tryz.func148.trans (congrArg some (by kernel_rfl))
  f300 := Tryz.func150.trans (congrArg some (by kernel_rfl))
  f301 := Tryz.func151.trans (congrArg some (by kernel_rfl))
  f328 := Tryz.func175.trans (congrArg some (by kernel_rfl))
  f329 := Tryz.func163.trans (congrArg some (by kernel_rfl))
  f330 := Tryz.func164.trans (congrArg some (by kernel_rfl))
  f331 := Tryz.func176.trans (congrArg some (by kernel_rfl))
  f332 := Tryz.func177.trans (congrArg some (by kernel_rfl))
  f343 := Tryz.func184.trans (congrArg some (by kernel_rfl))
  t0 := Tryz.underlying0
  a0 := Tryz.isAgg0
  z0 := Tryz.sizeOf0
  v0 := Tryz.zeroValue0
  t3 := Tryz.underlying3
  a3 := Tryz.isAgg3
  z3 := Tryz.sizeOf3
  v3 := Tryz.zeroValue3
  t4 := Tryz.underlying4
  a4 := Tryz.isAgg4
  z4 := Tryz.sizeOf4
  v4 := Tryz.zeroValue4
  t5 := Tryz.underlying5
  a5 := Tryz.isAgg5
  z5 := Tryz.sizeOf5
  v5 := Tryz.zeroValue5
  t9 := Tryz.underlying9
  a9 := Tryz.isAgg9
  z9 := Tryz.sizeOf9
  v9 := Tryz.zeroValue9
  t28 := Tryz.underlying42
  a28 := Tryz.isAgg42
  z28 := Tryz.sizeOf42
  v28 := Tryz.zeroValue42
  t46 := Tryz.underlying135
  a46 := Tryz.isAgg135
  z46 := Tryz.sizeOf135
  v46 := Tryz.zeroValue135
  t51 := Tryz.underlying183
  a51 := Tryz.isAgg183
  z51 := Tryz.sizeOf183
  v51 := Tryz.zeroValue183
  t53 := Tryz.underlying185
  a53 := Tryz.isAgg185
  z53 := Tryz.sizeOf185
  v53 := Tryz.zeroValue185
  t131 := Tryz.underlying173
  a131 := Tryz.isAgg173
  z131 := Tryz.sizeOf173
  v131 := Tryz.zeroValue173
  t182 := Tryz.underlying176
  a182 := Tryz.isAgg176
  z182 := Tryz.sizeOf176
  v182 := Tryz.zeroValue176
  t183 := Tryz.underlying177
  a183 := Tryz.isAgg177
  z183 := Tryz.sizeOf177
  v183 := Tryz.zeroValue177
  t218 := Tryz.underlying219
  a218 := Tryz.isAgg219
  z218 := Tryz.sizeOf219
  v218 := Tryz.zeroValue219
  t222 := Tryz.underlying223
  a222 := Tryz.isAgg223
  z222 := Tryz.sizeOf223
  v222 := Tryz.zeroValue223
  t228 := Tryz.underlying245
  a228 := Tryz.isAgg245
  z228 := Tryz.sizeOf245
  v228 := Tryz.zeroValue245
  t229 := Tryz.underlying63
  a229 := Tryz.isAgg63
  z229 := Tryz.sizeOf63
  v229 := Tryz.zeroValue63 }
open Go.Sort Go.RowKit in
theorem Tryz.slices_Sort_int (blk off cap : Nat) (zs : List Int) (w : World) (hH : Holds (Value.int .i64) w blk off zs.toArray) (hblk : blk < w.heap.size) (hsz : zs.length < 4611686018427387904) :
    Calls Tryz.prog 52 #[.slice (some ⟨blk, off, none⟩) zs.length cap] w fun e w' =>
      e = .returned (.tuple #[]) ∧ ∃ n os, w' = grow (putRow (Value.int .i64) (Sort.ahead w n) blk off (zs.mergeSort fun x y => decide (x ≤ y)).toArray) os := Any.slices_Sort_int Tryz.lays189 blk off cap zs w hH hblk hsz
def Tryz.laysNm220_ren : Go.Shelf.Ren := ⟨fun | 20 => 53 | n => n, fun | 22 => 42 | 3 => 3 | 4 => 4 | 0 => 0 | n => n, fun | n => n⟩
theorem Tryz.laysNm220 : Go.Proofs.Lays2.n20 Tryz.prog Tryz.laysNm220_ren := {
  mixed := by kernel_rfl
  f20 := Tryz.func53.trans (congrArg some (by kernel_rfl))
  t0 := Tryz.underlying0
  a0 := Tryz.isAgg0
  z0 := Tryz.sizeOf0
  v0 := Tryz.zeroValue0
  t3 := Tryz.underlying3
  a3 := Tryz.isAgg3
  z3 := Tryz.sizeOf3
  v3 := Tryz.zeroValue3
  t4 := Tryz.underlying4
  a4 := Tryz.isAgg4
  z4 := Tryz.sizeOf4
  v4 := Tryz.zeroValue4
  t22 := Tryz.underlying42
  a22 := Tryz.isAgg42
  z22 := Tryz.sizeOf42
  v22 := Tryz.zeroValue42
  i3 := by kernel_rfl }
open Go.RowKit Go.Lib Go.Sort in
/-- slices.Compact at []int, over an array: the library's two loops are walked. (LAID: no walk: one application.) -/
theorem Tryz.slices_Compact_int_arr (blk off cap : Nat) (d : Array Int) (w : World) (hH : Holds encI w blk off d) (hsz : d.size ≤ 9223372036854775807) (hcap : d.size ≤ cap) :
    Calls Tryz.prog 53 #[.slice (some ⟨blk, off, none⟩) d.size cap] w fun e w' => e = .returned (.slice (some ⟨blk, off, none⟩) (compactUpTo d d.size).length cap) ∧ ∃ q, w' = putRow encI (Sort.ahead w q) blk off (compactUpTo d d.size ++ List.replicate (d.size - (compactUpTo d d.size).length) 0).toArray := Any.slices_Compact_int_arr Tryz.laysNm220 blk off cap d w hH hsz hcap
open Go.RowKit Go.Lib Go.Sort in
/-- slices.Compact at []int: "Compact replaces consecutive runs of equal elements with a single copy. This is like the uniq command found on Unix. Compact modifies the contents of the slice s and returns the modified slice, which may have a smaller length. Compact zeroes the elements between the new length and the original length. The result preserves the nilness of s.": IT RETURNS THE SLICE CUT TO 'Lib.compact zs'; ITS CELLS HOLD 'Lib.compact zs', THEN ZERO VALUES up to the old length; all else is as it was, but for the count of draws. IN THE WORDS OF slices.Sort's CONTRACT ('Holds', 'putRow'): so the everyday 'slices.Sort(xs); xs = slices.Compact(xs)' goes from the one contract to the other. It asks 'zs.length ≤ cap' (every slice's: the reslicing 's[:k]' looks at it). Length 0, nil: '.._empty'. (LAID: no walk: one application.) -/
theorem Tryz.slices_Compact_int (blk off cap : Nat) (zs : List Int) (w : World) (hH : Holds (Value.int .i64) w blk off zs.toArray) (hsz : zs.length ≤ 9223372036854775807) (hcap : zs.length ≤ cap) :
    Calls Tryz.prog 53 #[.slice (some ⟨blk, off, none⟩) zs.length cap] w fun e w' => e = .returned (.slice (some ⟨blk, off, none⟩) (Lib.compact zs).length cap) ∧ ∃ q, w' = putRow (Value.int .i64) (Sort.ahead w q) blk off (Lib.compact zs ++ List.replicate (zs.length - (Lib.compact zs).length) 0).toArray := Any.slices_Compact_int Tryz.laysNm220 blk off cap zs w hH hsz hcap
open Go.RowKit Go.Lib Go.Sort in
/-- The same at a slice of length 0, a nil one too: it comes back as it is. (LAID: no walk: one application.) -/
theorem Tryz.slices_Compact_int_empty (a : Option Addr) (cap : Nat) (w : World) :
    Calls Tryz.prog 53 #[.slice a 0 cap] w fun e w' => e = .returned (.slice a 0 cap) ∧ w' = w := Any.slices_Compact_int_empty Tryz.laysNm220 a cap w
/-- .. and plain. (LAID: no walk: one application.) -/
theorem Tryz.slices_Sort_int_none (p : Option Addr) (cap : Nat) (w : World) :
    Calls Tryz.prog 52 #[.slice p 0 cap] w fun e w' => e = .returned (.tuple #[]) ∧ w' = w := Any.slices_Sort_int_none Tryz.lays189 p cap w
end Go.Proofs
/-
  A ROW OF THE CALL's OWN, SORTED AND MADE ONE OF EACH: over no program.
-/


namespace Go.Proofs.YtohngjkedhpikaaGreatDoor
open Go.RowKit Go.Sort

theorem put_heap {w : World} {k g : Nat} {d : List Int} {os : Array Obj} {cur : Array Value} {E : TypeId} {fr : Nat × Nat} (hg : w.heap[g]? = some (.cells cur E fr)) :
    (grow (putRow (Value.int .i64) (Go.Sort.ahead w k) g 0 d.toArray) os).heap[g]? = some (.cells (putCells (Value.int .i64) 0 d.toArray cur) E fr) := by
  have hlt : g < w.heap.size := (Array.getElem?_eq_some_iff.1 hg).1
  rw [heap_grow_old _ _ (by simpa using hlt)]
  unfold putRow mapBlock
  simp only [heap_ahead, Array.getElem?_modify, if_true, hg]
  rfl
theorem put_other {w : World} {k g i : Nat} {d : List Int} {os : Array Obj} (hi : i < w.heap.size) (hne : i ≠ g) :
    (grow (putRow (Value.int .i64) (Go.Sort.ahead w k) g 0 d.toArray) os).heap[i]? = w.heap[i]? := by
  rw [heap_grow_old _ _ (by simpa using hi)]
  unfold putRow mapBlock
  simp only [heap_ahead, Array.getElem?_modify]
  rw [if_neg (Ne.symm hne)]
theorem put_grown (w : World) (k g : Nat) (d : List Int) (os : Array Obj) : w.grownBy (grow (putRow (Value.int .i64) (Go.Sort.ahead w k) g 0 d.toArray) os) (some g) :=
  ⟨rfl, rfl, rfl, by simp, fun i hi hne => put_other hi (fun e => hne (by rw [e]))⟩
theorem putCells_take {d : List Int} {cur : Array Value} {m : Nat} (hm : m ≤ d.length) (hd : d.length ≤ cur.size) : (putCells (Value.int .i64) 0 d.toArray cur).toList.take m = (d.take m).map (Value.int .i64) := by
  refine List.ext_getElem? fun j => ?_
  rw [List.getElem?_map]
  rcases Nat.lt_or_ge j m with h | h
  · rw [List.getElem?_take_of_lt h, List.getElem?_take_of_lt h, Array.getElem?_toList]
    unfold putCells
    rw [Array.getElem?_mapIdx, Array.getElem?_eq_getElem (by omega), Option.map_some, if_pos ⟨Nat.zero_le _, by simp; omega⟩, Nat.sub_zero, getElem!_pos d.toArray j (by simp; omega), List.getElem?_eq_getElem (by omega)]
    simp
  · rw [List.getElem?_eq_none (by rw [List.length_take]; omega), List.getElem?_eq_none (by rw [List.length_take]; omega)]; rfl
/-- the row laid anew, perhaps shorter -/
theorem OwnI.put {E : TypeId} {w0 w : World} {g n cap : Nat} {l : List Int} (h : OwnI E w0 w (.slice (some ⟨g, 0, none⟩) n cap) l) (k : Nat) (d : List Int) (os : Array Obj) (hd : d.length = l.length) (m : Nat) (hm : m ≤ d.length) :
    OwnI E w0 (grow (putRow (Value.int .i64) (Go.Sort.ahead w k) g 0 d.toArray) os) (.slice (some ⟨g, 0, none⟩) m cap) (d.take m) := by
  obtain rfl := h.len
  obtain ⟨h1, h2⟩ := h
  rcases h2 with ⟨hv, _⟩ | ⟨g', cap', cur, hv, hb, hg, hnc, hcm, hcs, htk⟩
  · cases hv
  · obtain ⟨rfl, rfl⟩ : g = g' ∧ cap = cap' := by
      injection hv with a1 a2 a3
      injection a1 with a1
      injection a1 with a1
      exact ⟨a1, a3⟩
    have hl : (d.take m).length = m := by rw [List.length_take]; omega
    refine ⟨by rw [List.length_map, hl, Nat.mul_one], .inr ⟨g, cap, _, by rw [hl], hb, put_heap hg, by omega, hcm, by simp [putCells]; simpa using hcs, ?_⟩⟩
    rw [hl, Nat.mul_one]
    exact putCells_take hm (by simp at hcs; omega)
/-- the row's cells, in the sort's words -/
theorem OwnI.holds {E : TypeId} {w0 w : World} {g n cap : Nat} {l : List Int} (h : OwnI E w0 w (.slice (some ⟨g, 0, none⟩) n cap) l) : Go.Sort.Holds (Value.int .i64) w g 0 l.toArray := fun j hj => by
  have hj' : j < l.length := by simpa using hj
  rw [Nat.zero_add, h.cell hj', h.frozen j, getElem!_pos l.toArray j hj]
  refine ⟨?_, rfl⟩
  simp [ix, List.getD, hj']
end Go.Proofs.YtohngjkedhpikaaGreatDoor
/-
  LINK, PLAIN: references; lists in order, each once; who refers to whom; over no program.
-/


namespace Go.Proofs.YtohngjkedhpikaaGreatDoor
open Go.RowKit

/-- a reference -/
structure Rfr where
  f : Int
  t : Int
  n : Int
  s : ByteArray
  l : Int
  c : Int
def rfE : Enc Rfr where
  k := 6
  enc x := [.int .i64 x.f, .int .i64 x.t, .int .i64 x.n, .string x.s, .int .i64 x.l, .int .i64 x.c]
  len _ := rfl
  one x u hu := by
    simp only [List.mem_cons, List.not_mem_nil, or_false] at hu
    rcases hu with rfl | rfl | rfl | rfl | rfl | rfl <;> rfl
/-! ### lists in order, each once -/
theorem strict_ext : ∀ {a b : List Int}, a.Pairwise (· < ·) → b.Pairwise (· < ·) → (∀ x, x ∈ a ↔ x ∈ b) → a = b
  | [], [], _, _, _ => rfl
  | [], y :: b, _, _, h => by have := (h y).2 (by simp); cases this
  | x :: a, [], _, _, h => by have := (h x).1 (by simp); cases this
  | x :: a, y :: b, ha, hb, h => by
    obtain ⟨ha1, ha2⟩ := List.pairwise_cons.1 ha
    obtain ⟨hb1, hb2⟩ := List.pairwise_cons.1 hb
    have hxy : x = y := by
      rcases List.mem_cons.1 ((h x).1 (by simp)) with e | e
      · exact e
      · rcases List.mem_cons.1 ((h y).2 (by simp)) with e2 | e2
        · exact e2.symm
        · have h1 := hb1 x e
          have h2 := ha1 y e2
          omega
    subst hxy
    rw [strict_ext ha2 hb2 (fun z => ?_)]
    have hz := h z
    simp only [List.mem_cons] at hz
    constructor
    · intro hm
      rcases hz.1 (.inr hm) with e | e
      · have := ha1 z hm; omega
      · exact e
    · intro hm
      rcases hz.2 (.inr hm) with e | e
      · have := hb1 z hm; omega
      · exact e
theorem compact_upTo {d : Array Int} (hs : ∀ i j, i < j → j < d.size → d[i]! ≤ d[j]!) : ∀ m, m ≤ d.size →
    (Lib.compactUpTo d m).Pairwise (· < ·) ∧ (∀ x ∈ Lib.compactUpTo d m, x ≤ d[m - 1]!) ∧ ∀ x, x ∈ Lib.compactUpTo d m ↔ ∃ j, j < m ∧ d[j]! = x
  | 0, _ => by
    have e : Lib.compactUpTo d 0 = [] := rfl
    rw [e]
    exact ⟨List.Pairwise.nil, by simp, fun x => ⟨fun h => (by cases h), fun ⟨j, h, _⟩ => (by omega)⟩⟩
  | m + 1, hm => by
    obtain ⟨h1, h2, h3⟩ := compact_upTo hs m (by omega)
    rw [Lib.compactUpTo_succ]
    by_cases hk : Lib.keeps d m = true
    · rw [if_pos hk]
      have hlt : ∀ x ∈ Lib.compactUpTo d m, x < d[m]! := fun x hx => by
        have hx2 := h2 x hx
        obtain ⟨j, hj, _⟩ := (h3 x).1 hx
        have hle := hs (m - 1) m (by omega) (by omega)
        have hne : d[m]! ≠ d[m - 1]! := fun e => by
          rw [Lib.keeps_neg (by omega) e] at hk; cases hk
        omega
      refine ⟨List.pairwise_append.2 ⟨h1, List.pairwise_singleton _ _, fun x hx y hy => by rw [List.mem_singleton.1 hy]; exact hlt x hx⟩, fun x hx => ?_, fun x => ?_⟩
      · rw [Nat.add_sub_cancel]
        rcases List.mem_append.1 hx with hx | hx
        · exact Int.le_of_lt (hlt x hx)
        · rw [List.mem_singleton.1 hx]; exact Int.le_refl _
      · rw [List.mem_append, List.mem_singleton, h3]
        constructor
        · rintro (⟨j, hj, e⟩ | e)
          · exact ⟨j, by omega, e⟩
          · exact ⟨m, by omega, e.symm⟩
        · rintro ⟨j, hj, e⟩
          by_cases hjm : j = m
          · subst hjm; exact .inr e.symm
          · exact .inl ⟨j, by omega, e⟩
    · rw [if_neg hk, List.append_nil]
      have hm0 : 0 < m := by
        rcases Nat.eq_zero_or_pos m with h | h
        · subst h; exact absurd (Lib.keeps_lt_one d 0 (by omega)) hk
        · exact h
      have he : d[m]! = d[m - 1]! := by
        rcases Int.lt_or_le (d[m - 1]!) (d[m]!) with h | h
        · exact absurd (Lib.keeps_pos (d := d) (m := m) (by omega)) hk
        · have := hs (m - 1) m (by omega) (by omega); omega
      refine ⟨h1, fun x hx => by rw [Nat.add_sub_cancel, he]; exact h2 x hx, fun x => ?_⟩
      rw [h3]
      constructor
      · rintro ⟨j, hj, e⟩; exact ⟨j, by omega, e⟩
      · rintro ⟨j, hj, e⟩
        by_cases hjm : j = m
        · subst hjm; exact ⟨j - 1, by omega, by rw [← he]; exact e⟩
        · exact ⟨j, by omega, e⟩
/-- **sorted and made one of each: strictly in order, the same members** -/
theorem rise_says (zs : List Int) : (Lib.compact (zs.mergeSort fun x y => decide (x ≤ y))).Pairwise (· < ·) ∧ ∀ x, x ∈ Lib.compact (zs.mergeSort fun x y => decide (x ≤ y)) ↔ x ∈ zs := by
  have hp := List.pairwise_mergeSort (le := fun x y : Int => decide (x ≤ y)) (fun a b c h1 h2 => by simp at *; omega) (fun a b => by simp; omega) zs
  have hmem : ∀ x, x ∈ (zs.mergeSort fun x y => decide (x ≤ y)) ↔ x ∈ zs := fun x => (List.mergeSort_perm zs _).mem_iff
  generalize zs.mergeSort (fun x y => decide (x ≤ y)) = s at *
  have hs : ∀ i j, i < j → j < s.toArray.size → s.toArray[i]! ≤ s.toArray[j]! := fun i j hij hj => by
    have hj' : j < s.length := by simpa using hj
    have := List.pairwise_iff_getElem.1 hp i j (by omega) hj' hij
    simp at this
    rw [getElem!_pos s.toArray i (by simp; omega), getElem!_pos s.toArray j hj]
    simpa using this
  obtain ⟨h1, _, h3⟩ := compact_upTo hs s.toArray.size (Nat.le_refl _)
  have e : Lib.compact s = Lib.compactUpTo s.toArray s.toArray.size := by unfold Lib.compact; simp
  rw [e]
  refine ⟨h1, fun x => ?_⟩
  rw [h3, ← hmem, List.mem_iff_getElem]
  constructor
  · rintro ⟨j, hj, e⟩
    rw [getElem!_pos s.toArray j hj] at e
    exact ⟨j, by simpa using hj, by simpa using e⟩
  · rintro ⟨j, hj, e⟩
    exact ⟨j, by simpa using hj, by rw [getElem!_pos s.toArray j (by simpa using hj)]; simpa using e⟩
/-- the numbers below n of which something is so -/
def below (n : Nat) (p : Int → Bool) : List Int := ((List.range n).map fun k : Nat => (k : Int)).filter p
theorem below_strict (n : Nat) (p : Int → Bool) : (below n p).Pairwise (· < ·) := by
  unfold below
  refine List.Pairwise.filter _ (List.pairwise_map.2 ?_)
  exact List.pairwise_lt_range.imp fun {a b} h => by omega
theorem below_mem {n : Nat} {p : Int → Bool} {x : Int} : x ∈ below n p ↔ 0 ≤ x ∧ x < n ∧ p x = true := by
  unfold below
  rw [List.mem_filter, List.mem_map]
  constructor
  · rintro ⟨⟨k, hk, rfl⟩, hp⟩
    have := List.mem_range.1 hk
    exact ⟨by omega, by omega, hp⟩
  · rintro ⟨h0, h1, hp⟩
    exact ⟨⟨x.toNat, List.mem_range.2 (by omega), by omega⟩, hp⟩
theorem below_snoc (n : Nat) (p : Int → Bool) : below (n + 1) p = below n p ++ if p n = true then [(n : Int)] else [] := by
  unfold below
  rw [List.range_succ, List.map_append, List.filter_append]
  simp [List.filter_cons]
theorem rise_below {zs : List Int} {n : Nat} {p : Int → Bool} (h : ∀ x, x ∈ zs ↔ 0 ≤ x ∧ x < n ∧ p x = true) : Lib.compact (zs.mergeSort fun x y => decide (x ≤ y)) = below n p :=
  strict_ext (rise_says zs).1 (below_strict n p) fun x => by rw [(rise_says zs).2, h, below_mem]
/-! ### who refers to whom -/
def cntR (x : Rfr) (tp : Int) : Bool := decide (0 ≤ x.f) && (decide (x.f < tp) && (decide (0 ≤ x.t) && decide (x.t < tp)))
def edge (l : List Rfr) (tp a b : Int) : Bool := l.any fun x => cntR x tp && (x.f == a && x.t == b)
def outOf (l : List Rfr) (tp a : Int) : List Int := below tp.toNat (edge l tp a)
def intoOf (l : List Rfr) (tp a : Int) : List Int := below tp.toNat fun b => edge l tp b a
def loneB (l : List Rfr) (tp i : Int) : Bool := !(l.any fun x => cntR x tp && (x.f != x.t && x.t == i))
def loneOf (l : List Rfr) (tp : Int) : List Int := below tp.toNat (loneB l tp)
/-- what the program lists of each reference -/
def rawOut (l : List Rfr) (tp a : Int) : List Int := (l.filter fun x => cntR x tp && x.f == a).map (·.t)
def rawInto (l : List Rfr) (tp a : Int) : List Int := (l.filter fun x => cntR x tp && x.t == a).map (·.f)
theorem out_is (l : List Rfr) (tp a : Int) : Lib.compact ((rawOut l tp a).mergeSort fun x y => decide (x ≤ y)) = outOf l tp a := by
  refine rise_below fun x => ?_
  unfold rawOut edge cntR
  simp only [List.mem_map, List.mem_filter, List.any_eq_true, Bool.and_eq_true, decide_eq_true_eq, beq_iff_eq]
  constructor
  · rintro ⟨y, ⟨hy, ⟨h1, h2, h3, h4⟩, h5⟩, rfl⟩
    exact ⟨h3, by omega, y, hy, ⟨h1, h2, h3, h4⟩, h5, rfl⟩
  · rintro ⟨_, _, y, hy, h1, h2, h3⟩
    exact ⟨y, ⟨hy, h1, h2⟩, h3⟩
theorem into_is (l : List Rfr) (tp a : Int) : Lib.compact ((rawInto l tp a).mergeSort fun x y => decide (x ≤ y)) = intoOf l tp a := by
  refine rise_below fun x => ?_
  unfold rawInto edge cntR
  simp only [List.mem_map, List.mem_filter, List.any_eq_true, Bool.and_eq_true, decide_eq_true_eq, beq_iff_eq]
  constructor
  · rintro ⟨y, ⟨hy, ⟨h1, h2, h3, h4⟩, h5⟩, rfl⟩
    exact ⟨h1, by omega, y, hy, ⟨h1, h2, h3, h4⟩, rfl, h5⟩
  · rintro ⟨_, _, y, hy, h1, h2, h3⟩
    exact ⟨y, ⟨hy, h1, h3⟩, h2⟩
theorem rawOut_snoc (l : List Rfr) (x : Rfr) (tp a : Int) : rawOut (l ++ [x]) tp a = rawOut l tp a ++ if (cntR x tp && x.f == a) = true then [x.t] else [] := by
  unfold rawOut
  rw [List.filter_append, List.map_append, List.filter_cons]
  split <;> rfl
theorem rawInto_snoc (l : List Rfr) (x : Rfr) (tp a : Int) : rawInto (l ++ [x]) tp a = rawInto l tp a ++ if (cntR x tp && x.t == a) = true then [x.f] else [] := by
  unfold rawInto
  rw [List.filter_append, List.map_append, List.filter_cons]
  split <;> rfl
/-- the error of what is asked -/
def asksE (n : Nat) (tp : Int) (some' : List Int) : Int := if 65536 < n then 2 else if tp < 0 ∨ 1000 < tp then 1 else if some'.any (fun t => decide (t < 0) || decide (tp ≤ t)) = true then 1 else 0
end Go.Proofs.YtohngjkedhpikaaGreatDoor
/-
  KEYWORD, T: Topics.
-/






namespace Go.Proofs.YtohngjkedhpikaaGreatDoor
open Go.RowKit Go.Sort
attribute [local go_sem] Old.refl Old.alloc Old.drew Old.setCell OldW.old

/-- slices.Sort at a row of the call's own -/
theorem sortI_any (w0 w : World) (v : Value) (l : List Int) (h : OwnI 3 w0 w v l) (hl : l.length ≤ 100000000) :
    Calls Tryz.prog 52 #[v] w fun e w' => e = .returned (.tuple #[]) ∧ OwnI 3 w0 w' v (l.mergeSort fun x y => decide (x ≤ y)) ∧ w.grownBy w' v.ownBlock := by
  have hsl : (l.mergeSort fun x y => decide (x ≤ y)).length = l.length := List.length_mergeSort l
  rcases h.2 with ⟨rfl, h0⟩ | ⟨g, cap, cur, rfl, hb, hg, hnc, hcm, hcs, htk⟩
  · obtain rfl : l = [] := List.eq_nil_of_length_eq_zero h0
    refine (Tryz.slices_Sort_int_none none 0 w).mono ?_
    rintro e w1 ⟨rfl, rfl⟩
    exact ⟨rfl, by rw [List.mergeSort_nil]; exact OwnI.nil _ _ _, World.grownBy.refl _ _⟩
  · have hgl : g < w.heap.size := (Array.getElem?_eq_some_iff.1 hg).1
    refine (Tryz.slices_Sort_int g 0 cap l w h.holds hgl (by omega)).mono ?_
    rintro e w1 ⟨rfl, n, os, hw1⟩
    have h1 := h.put n (l.mergeSort fun x y => decide (x ≤ y)) os hsl l.length (by omega)
    have hg1 := put_grown w n g (l.mergeSort fun x y => decide (x ≤ y)) os
    rw [← hw1] at h1 hg1
    rw [← hsl, List.take_length] at h1
    rw [hsl] at h1
    exact ⟨rfl, h1, hg1⟩
/-- slices.Compact at a row of the call's own -/
theorem compactI_any (w0 w : World) (v : Value) (l : List Int) (h : OwnI 3 w0 w v l) (hl : l.length ≤ 100000000) :
    Calls Tryz.prog 53 #[v] w fun e w' => (∃ u, e = .returned u ∧ OwnI 3 w0 w' u (Lib.compact l)) ∧ w.grownBy w' v.ownBlock := by
  have hcl := Lib.compact_length_le l
  rcases h.2 with ⟨rfl, h0⟩ | ⟨g, cap, cur, rfl, hb, hg, hnc, hcm, hcs, htk⟩
  · obtain rfl : l = [] := List.eq_nil_of_length_eq_zero h0
    refine (Tryz.slices_Compact_int_empty none 0 w).mono ?_
    rintro e w1 ⟨rfl, rfl⟩
    exact ⟨⟨_, rfl, OwnI.nil _ _ _⟩, World.grownBy.refl _ _⟩
  · have hcap : l.length ≤ cap := hnc
    refine (Tryz.slices_Compact_int g 0 cap l w h.holds (by omega) (by omega)).mono ?_
    rintro e w1 ⟨rfl, q, hw1⟩
    have h1 := h.put q (Lib.compact l ++ List.replicate (l.length - (Lib.compact l).length) 0) #[] (by rw [List.length_append, List.length_replicate]; omega) (Lib.compact l).length (by rw [List.length_append]; omega)
    have hg1 := put_grown w q g (Lib.compact l ++ List.replicate (l.length - (Lib.compact l).length) 0) #[]
    rw [grow_empty, ← hw1] at h1 hg1
    rw [List.take_left] at h1
    exact ⟨⟨_, rfl, h1⟩, hg1⟩
/-- the topics of the first entries of a term -/
def rawT (l : List En) : Nat → ByteArray → List Int
  | 0, _ => []
  | n + 1, t => rawT l n t ++ (match l[n]? with | some e => if foldS e.term = t then e.topics else [] | none => [])
theorem mem_rawT {l : List En} {n : Nat} {t : ByteArray} {x : Int} : x ∈ rawT l n t ↔ ∃ (i : Nat) (e : En), i < n ∧ l[i]? = some e ∧ foldS e.term = t ∧ x ∈ e.topics := by
  induction n with
  | zero => simp [rawT]
  | succ n ih =>
    rw [rawT, List.mem_append, ih]
    constructor
    · rintro (⟨i, e, hi, h⟩ | h)
      · exact ⟨i, e, by omega, h⟩
      · split at h
        · rename_i e he
          split at h
          · exact ⟨n, e, by omega, he, ‹_›, h⟩
          · simp at h
        · simp at h
    · rintro ⟨i, e, hi, he, h1, h2⟩
      by_cases k : i = n
      · subst k
        right
        rw [he]
        simp only
        rw [if_pos h1]
        exact h2
      · left; exact ⟨i, e, by omega, he, h1, h2⟩
def topsN (l : List En) (n : Nat) : Nat := ((l.take n).flatMap En.topics).length
theorem topsN_succ {l : List En} {n : Nat} {e : En} (he : l[n]? = some e) : topsN l (n + 1) = topsN l n + e.topics.length := by
  unfold topsN
  rw [List.take_add_one, he]
  simp
theorem topsN_le (l : List En) (n : Nat) : topsN l n ≤ (l.flatMap En.topics).length := by
  have h : l.flatMap En.topics = (l.take n).flatMap En.topics ++ (l.drop n).flatMap En.topics := by rw [← List.flatMap_append, List.take_append_drop]
  unfold topsN
  rw [h, List.length_append]
  omega
theorem rawT_length (l : List En) (n : Nat) (t : ByteArray) (hn : n ≤ l.length) : (rawT l n t).length ≤ topsN l n := by
  induction n with
  | zero => simp [rawT]
  | succ n ih =>
    have he := List.getElem?_eq_getElem (show n < l.length by omega)
    have h := ih (by omega)
    rw [topsN_succ he, rawT, he, List.length_append]
    simp only
    split
    · omega
    · simp; omega
theorem rawT_own {l : List En} {n : Nat} {e : En} {t : ByteArray} (he : l[n]? = some e) (h : foldS e.term = t) : rawT l (n + 1) t = rawT l n t ++ e.topics := by
  rw [rawT, he]
  simp only
  rw [if_pos h]
theorem rawT_skip {l : List En} {n : Nat} {e : En} {t : ByteArray} (he : l[n]? = some e) (h : ¬ foldS e.term = t) : rawT l (n + 1) t = rawT l n t := by
  rw [rawT, he]
  simp only
  rw [if_neg h, List.append_nil]
theorem rawT_tops (l : List En) (t : ByteArray) : IsTops l t (Lib.compact ((rawT l l.length t).mergeSort fun x y => decide (x ≤ y))) := by
  obtain ⟨h1, h2⟩ := rise_says (rawT l l.length t)
  refine ⟨h1, fun x => ?_⟩
  rw [h2, mem_rawT]
  constructor
  · rintro ⟨i, e, _, he, h⟩
    exact ⟨e, List.mem_of_getElem? he, h⟩
  · rintro ⟨e, he, h⟩
    obtain ⟨i, hi⟩ := List.getElem?_of_mem he
    exact ⟨i, e, (List.getElem?_eq_some_iff.1 hi).1, hi, h⟩
set_option maxRecDepth 100000 in
set_option maxHeartbeats 1600000 in
theorem Topics_any (v : Value) (l : List En) (s : ByteArray) (w : World) (hv : Ents w v l) (hT : Tabs w) (hs : s.size ≤ 4194304) (hl : l.length ≤ 1000000) (hU : (l.flatMap En.topics).length ≤ 1000000) (hsz : ∀ e ∈ l, e.term.size ≤ 4194304) :
    Calls Tryz.prog 14 #[v, .string s] w fun e w' => (∃ u r, e = .returned u ∧ IsTops l (foldS s) r ∧ OwnI 3 w w' u r) ∧ Old w w' := by
  obtain ⟨frm, hfr⟩ : ∃ f, foldS s = f := ⟨_, rfl⟩
  have HF0 := Lib.hid (Fold_any s w hT hs)
  rw [hfr] at HF0 ⊢
  obtain ⟨a, cap, rfl, hc1, hc2⟩ := Seqs.form hv
  obtain ⟨b, off, ha, hat⟩ := Ents.open hv
  have Ha := Lib.hid ha
  have Hat := Lib.hid hat
  have HT := Lib.hid hT
  have Hsz := Lib.hid hsz
  clear hv ha hat hT hsz hs hfr
  go_enter Tryz.func14, Tryz.ntmps14
  go_wp2_with (go_at_call 51; refine HF0.out.mono ?_; rintro e' w0 ⟨rfl, o0⟩)
  go_loopw [6, 13] (fun u j wx => ∃ (k : Nat), j = .int .i64 k ∧ k ≤ l.length ∧ OwnI 3 w wx u (rawT l k frm) ∧ Old w wx) (fun _ j _ => l.length - (intOf j).toNat)
  case atStart => exact ⟨0, rfl, Nat.zero_le _, OwnI.nil _ _ _, o0⟩
  case round =>
    clear HF0 o0
    obtain ⟨k, rfl, hk, hown, ho⟩ := hrel
    have HO := Lib.hid hown
    by_cases hlt : k < l.length
    · have hi : (k : Int) < l.length := by omega
      obtain ⟨e, he⟩ : ∃ e, l[k]? = some e := ⟨_, List.getElem?_eq_getElem hlt⟩
      obtain ⟨a2, c2, a3, c3, hcs, hti, _⟩ := Hat.out k e he
      obtain rfl := Ha.out (by omega)
      have c0 : ∀ V, Old wr V → V.cell? ⟨b, off + k * 4, none⟩ = some (.string e.term) := fun V o => (hcs V (ho.trans o)).1
      have c1 : ∀ V, Old wr V → V.cell? ⟨b, off + k * 4 + 1, none⟩ = some (.string e.sub) := fun V o => (hcs V (ho.trans o)).2.1
      have c2' : ∀ V, Old wr V → V.cell? ⟨b, off + k * 4 + 2, none⟩ = some (.slice a2 e.topics.length c2) := fun V o => (hcs V (ho.trans o)).2.2.1
      have c3' : ∀ V, Old wr V → V.cell? ⟨b, off + k * 4 + 3, none⟩ = some (.slice a3 e.sees.length c3) := fun V o => (hcs V (ho.trans o)).2.2.2
      have hz1 := Hsz.out e (List.mem_of_getElem? he)
      have hts := topsN_succ he
      have htl := topsN_le l (k + 1)
      have hrl := rawT_length l k frm hk
      have Hown := Lib.hid (fun h => rawT_own (t := frm) he h)
      have Hskip := Lib.hid (fun h => rawT_skip (t := frm) he h)
      have Hti := Lib.hid hti
      clear hcs hti he hown
      go_upto_region 6 with fail
      have h9 := heap_alloc_new wr (.cells #[.string e.term, .string e.sub, .slice a2 e.topics.length c2, .slice a3 e.sees.length c3] 45)
      have HOA := Lib.hid (HO.out.alloc (.cells #[.string e.term, .string e.sub, .slice a2 e.topics.length c2, .slice a3 e.sees.length c3] 45))
      have hoA := ho.alloc (.cells #[.string e.term, .string e.sub, .slice a2 e.topics.length c2, .slice a3 e.sees.length c3] 45)
      clear HO ho c0 c1 c2' c3'
      generalize wr.alloc (.cells #[.string e.term, .string e.sub, .slice a2 e.topics.length c2, .slice a3 e.sees.length c3] 45) = wB at *
      generalize wr.heap.size = g9 at *
      have d0 := later (show wB.cell? ⟨g9, 0, none⟩ = some (.string e.term) from cells_at (i := 0) h9 rfl)
      have d2 := later (show wB.cell? ⟨g9, 2, none⟩ = some (.slice a2 e.topics.length c2) from cells_at (i := 2) h9 rfl)
      have HF := Lib.hid (Fold_any e.term wB (HT.out.old hoA) hz1)
      clear h9
      by_cases hft : foldS e.term = frm
      · have Hro := Lib.hid (Hown.out hft)
        rw [hft] at HF
        have hbq : (frm.toList == frm.toList) = true := by simp
        clear hft Hown Hskip
        go_wp2_with (first
          | (go_at_call 51; refine HF.out.mono ?_; rintro e' w2 ⟨rfl, o2⟩; have ho2 := hoA.trans o2)
          | (at_builtin; refine wpList_append_ints (w0 := w) rfl _ _ 42 rfl 3 Tryz.underlying42 infoIntK _ (rawT l k frm) e.topics rfl (HOA.out.old o2) _ rfl (Hti.out.old ho2) (by omega) ho2 ?_; intro v' w3 hown3 ho3 hg3))
        have HO3 := Lib.hid hown3
        clear hown3 hg3
        go_roundw
        case rel => exact ⟨k + 1, by go_num, by omega, by rw [Hro.out]; exact HO3.out, ho3⟩
        case measure => simp [intOf]; omega
      · have Hro := Lib.hid (Hskip.out hft)
        have hbq : ((foldS e.term).toList == frm.toList) = false := by rw [str_beq]; simpa using hft
        clear hft Hown Hskip
        go_wp2_with (go_at_call 51; refine HF.out.mono ?_; rintro e' w2 ⟨rfl, o2⟩)
        go_roundw
        case rel => exact ⟨k + 1, by go_num, by omega, by rw [Hro.out]; exact HOA.out.old o2, hoA.trans o2⟩
        case measure => simp [intOf]; omega
    · obtain rfl : k = l.length := by omega
      have hi : ¬ (l.length : Int) < l.length := by omega
      have hrl := Nat.le_trans (rawT_length l l.length frm (Nat.le_refl _)) (topsN_le l l.length)
      have Htops := Lib.hid (rawT_tops l frm)
      have H1 := Lib.hid (sortI_any w wr _ _ HO.out (by omega))
      obtain ⟨sl, hsl⟩ : ∃ x, (rawT l l.length frm).mergeSort (fun x y => decide (x ≤ y)) = x := ⟨_, rfl⟩
      have hsll : sl.length ≤ 1000000 := by rw [← hsl, List.length_mergeSort]; omega
      rw [hsl] at H1 Htops
      have H2 := Lib.hid (fun V (h : OwnI 3 w V _ sl) => compactI_any w V u6 sl h (by omega))
      clear hown hsl hrl
      go_wp2_with (first
        | (go_at_call 52; refine H1.out.mono ?_; rintro e' w2 ⟨rfl, hown2, hg2⟩; have ho2 := ho.grown hg2 (fun g e => (World.ownsRow.lt HO.out g e).1))
        | (go_at_call 53; refine (H2.out _ hown2).mono ?_; rintro e' w3 ⟨⟨u', rfl, hown3⟩, hg3⟩; have ho3 := ho2.grown hg3 (fun g e => (World.ownsRow.lt hown2 g e).1)))
      have HO3 := Lib.hid hown3
      clear hown3 hg3 hown2 hg2
      go_ret
      exact ⟨⟨_, _, rfl, Htops.out, HO3.out⟩, ho3⟩
end Go.Proofs.YtohngjkedhpikaaGreatDoor
