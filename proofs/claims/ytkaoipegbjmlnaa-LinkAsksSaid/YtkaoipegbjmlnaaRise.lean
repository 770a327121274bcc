/-
  A ROW OF THE CALL's OWN, SORTED AND MADE ONE OF EACH: over no program.
-/
import Derived.Test.YtkaoipegbjmlnaaOwn
import Derived.Test.YtkaoipegbjmlnaaLinkP
import Derived.Sort.Grow
namespace Go.Proofs.Ytkaoipegbjmlnaa
open Go.RowKit Go.Sort

theorem put_heap {w : World} {k g : Nat} {d : List Int} {os : Array Obj} {cur : Array Value} {E : TypeId} {fr : Nat × Nat} (hg : w.heap[g]? = some (.cells cur E fr)) :
    (grow (putRow (Value.int .i64) (Go.Sort.ahead w k) g 0 d.toArray) os).heap[g]? = some (.cells (putCells (Value.int .i64) 0 d.toArray cur) E fr) := by
  have hlt : g < w.heap.size := (Array.getElem?_eq_some_iff.1 hg).1
  rw [heap_grow_old _ _ (by simpa using hlt)]
  unfold putRow mapBlock
  simp only [heap_ahead, Array.getElem?_modify, if_true, hg]
  rfl
theorem put_other {w : World} {k g i : Nat} {d : List Int} {os : Array Obj} (hi : i < w.heap.size) (hne : i ≠ g) :
    (grow (putRow (Value.int .i64) (Go.Sort.ahead w k) g 0 d.toArray) os).heap[i]? = w.heap[i]? := by
  rw [heap_grow_old _ _ (by simpa using hi)]
  unfold putRow mapBlock
  simp only [heap_ahead, Array.getElem?_modify]
  rw [if_neg (Ne.symm hne)]
theorem put_grown (w : World) (k g : Nat) (d : List Int) (os : Array Obj) : w.grownBy (grow (putRow (Value.int .i64) (Go.Sort.ahead w k) g 0 d.toArray) os) (some g) :=
  ⟨rfl, rfl, rfl, by simp, fun i hi hne => put_other hi (fun e => hne (by rw [e]))⟩
theorem putCells_take {d : List Int} {cur : Array Value} {m : Nat} (hm : m ≤ d.length) (hd : d.length ≤ cur.size) : (putCells (Value.int .i64) 0 d.toArray cur).toList.take m = (d.take m).map (Value.int .i64) := by
  refine List.ext_getElem? fun j => ?_
  rw [List.getElem?_map]
  rcases Nat.lt_or_ge j m with h | h
  · rw [List.getElem?_take_of_lt h, List.getElem?_take_of_lt h, Array.getElem?_toList]
    unfold putCells
    rw [Array.getElem?_mapIdx, Array.getElem?_eq_getElem (by omega), Option.map_some, if_pos ⟨Nat.zero_le _, by simp; omega⟩, Nat.sub_zero, getElem!_pos d.toArray j (by simp; omega), List.getElem?_eq_getElem (by omega)]
    simp
  · rw [List.getElem?_eq_none (by rw [List.length_take]; omega), List.getElem?_eq_none (by rw [List.length_take]; omega)]; rfl
/-- the row laid anew, perhaps shorter -/
theorem OwnI.put {E : TypeId} {w0 w : World} {g n cap : Nat} {l : List Int} (h : OwnI E w0 w (.slice (some ⟨g, 0, none⟩) n cap) l) (k : Nat) (d : List Int) (os : Array Obj) (hd : d.length = l.length) (m : Nat) (hm : m ≤ d.length) :
    OwnI E w0 (grow (putRow (Value.int .i64) (Go.Sort.ahead w k) g 0 d.toArray) os) (.slice (some ⟨g, 0, none⟩) m cap) (d.take m) := by
  obtain rfl := h.len
  obtain ⟨h1, h2⟩ := h
  rcases h2 with ⟨hv, _⟩ | ⟨g', cap', cur, hv, hb, hg, hnc, hcm, hcs, htk⟩
  · cases hv
  · obtain ⟨rfl, rfl⟩ : g = g' ∧ cap = cap' := by
      injection hv with a1 a2 a3
      injection a1 with a1
      injection a1 with a1
      exact ⟨a1, a3⟩
    have hl : (d.take m).length = m := by rw [List.length_take]; omega
    refine ⟨by rw [List.length_map, hl, Nat.mul_one], .inr ⟨g, cap, _, by rw [hl], hb, put_heap hg, by omega, hcm, by simp [putCells]; simpa using hcs, ?_⟩⟩
    rw [hl, Nat.mul_one]
    exact putCells_take hm (by simp at hcs; omega)
/-- the row's cells, in the sort's words -/
theorem OwnI.holds {E : TypeId} {w0 w : World} {g n cap : Nat} {l : List Int} (h : OwnI E w0 w (.slice (some ⟨g, 0, none⟩) n cap) l) : Holds (Value.int .i64) w g 0 l.toArray := fun j hj => by
  have hj' : j < l.length := by simpa using hj
  rw [Nat.zero_add, h.cell hj', h.frozen j, getElem!_pos l.toArray j hj]
  refine ⟨?_, rfl⟩
  simp [ix, List.getD, hj']
end Go.Proofs.Ytkaoipegbjmlnaa
