/-
  MORE OF OWNED ROWS, over no program: make of integers; a store; what is kept while one block is written.
-/
import Derived.Test.YtpifkinlaicliaaDoorZRange
namespace Go.Proofs.YtpifkinlaicliaaDoor
open Go.RowKit

/-- all blocks that w had, but block g, lie as they lay -/
def OldBut (g : Nat) (w W : World) : Prop := KeptBut w.heap.size g w W
theorem OldBut.refl (g : Nat) (w : World) : OldBut g w w := KeptBut.refl _ _ _
theorem OldBut.alloc {g : Nat} {w W : World} (h : OldBut g w W) (o : Obj) : OldBut g w (W.alloc o) := h.trans (KeptBut.of_old ((Old.refl W).alloc o) h.size)
theorem OldBut.drew {g : Nat} {w W : World} (h : OldBut g w W) : OldBut g w W.drew := h.trans (KeptBut.of_old (Old.refl W).drew h.size)
theorem OldBut.setCell {g : Nat} {w W : World} (h : OldBut g w W) (o : Nat) (v : Value) : OldBut g w (W.setCell ⟨g, o, none⟩ v) := h.trans (KeptBut.setCell _ _ _)
theorem OldBut.trans {g : Nat} {x y z : World} (h : OldBut g x y) (k : OldBut g y z) : OldBut g x z :=
  KeptBut.trans h ⟨k.os, k.tape, k.output, k.size, fun i hi hb => k.block i (Nat.lt_of_lt_of_le hi h.size) hb⟩
theorem OldBut.old {g : Nat} {x y z : World} (h : OldBut g x y) (k : Old y z) : OldBut g x z := h.trans (KeptBut.of_old k (Nat.le_refl _))
theorem OldBut.cell {g : Nat} {w W : World} (h : OldBut g w W) {p : Addr} {v : Value} (hc : w.cell? p = some v) (hg : p.block ≠ g) : W.cell? p = some v :=
  (KeptBut.cell h (World.block_lt_of_cell? w p hc) hg).trans hc
theorem OldBut.base {g : Nat} {w0 w W : World} (h : OldBut g w W) (ho : Old w0 w) (hg : w0.heap.size ≤ g) : Old w0 W := KeptBut.old h ho ho.size hg
theorem laterBut {g : Nat} {w : World} {p : Addr} {v : Value} (hc : w.cell? p = some v) (hg : p.block ≠ g) : ∀ W, OldBut g w W → W.cell? p = some v := fun _ h => h.cell hc hg
/-- an owned row is owned from any lower place on -/
theorem OwnI.lower {E : TypeId} {w0 w1 w : World} {v : Value} {l : List Int} (h : OwnI E w1 w v l) (hs : w0.heap.size ≤ w1.heap.size) : OwnI E w0 w v l := by
  obtain ⟨h1, h2⟩ := h
  refine ⟨h1, ?_⟩
  rcases h2 with h2 | ⟨g, cap, cur, e, hb, r⟩
  · exact .inl h2
  · exact .inr ⟨g, cap, cur, e, Nat.le_trans hs hb, r⟩
theorem OwnI.but {E : TypeId} {w0 w w' : World} {a : Option Addr} {n cap : Nat} {l : List Int} {g : Nat} (h : OwnI E w0 w (.slice a n cap) l) (o : OldBut g w w') (hg : ∀ x, a = some x → x.block ≠ g) : OwnI E w0 w' (.slice a n cap) l := by
  obtain ⟨h1, h2⟩ := h
  refine ⟨h1, ?_⟩
  rcases h2 with h2 | ⟨g', cap', cur, e, hb, hc, r⟩
  · exact .inl h2
  · refine .inr ⟨g', cap', cur, e, hb, ?_, r⟩
    simp at e
    rw [o.block g' (Array.getElem?_eq_some_iff.1 hc).1 (hg _ e.1)]
    exact hc
theorem OwnI.setCell_other {E : TypeId} {w0 w : World} {a : Option Addr} {n cap : Nat} {l : List Int} {g o : Nat} (h : OwnI E w0 w (.slice a n cap) l) (v : Value) (hg : ∀ x, a = some x → x.block ≠ g) : OwnI E w0 (w.setCell ⟨g, o, none⟩ v) (.slice a n cap) l :=
  h.but ((OldBut.refl g w).setCell o v) hg
/-- a returned slice of integers in new memory, and a number -/
def RetOwnE (E : TypeId) (w w' : World) (l : List Int) (n : Int) (e : Ending) : Prop := ∃ v, e = .returned (.tuple #[v, .int .i64 n]) ∧ OwnI E w w' v l
section
variable {P : Program} {ops : Array Oper} {rest : List Oper} {o : Oper} {a : Act} {Q : Exit → Act → World → Prop}
theorem wpList_make_ints {w0 w : World} (hg : o.guard = none) (l c : Operand) (T : TypeId) (hop : o.op = Op.makeSlice T l c) (E : TypeId) (ht : P.underlying T = some (.slice E))
    (hinfo : (P.info? E).map (fun i => (i.zero, i.size, i.bytes)) = some (some (.int .i64 0), 1, 8)) (n : Nat) (hl : a.eval l = .int .i64 n) (hc : a.eval c = .int .i64 n) (hn : n ≤ 1073741824) (hold : Old w0 w)
    (hK : ∀ w', OwnI E w0 w' (.slice (some ⟨w.heap.size, 0, none⟩) n n) (List.replicate n 0) → Old w w' → w.heap.size < w'.heap.size → wpList P ops Q rest (a.put o.dst (.slice (some ⟨w.heap.size, 0, none⟩) n n)) w') : wpList P ops Q (o :: rest) a w := by
  obtain ⟨i, hi, hz0, hz1, hz2⟩ := info_parts hinfo
  refine wpList_make_full w hg l c T hop w0.heap.size E i (.int .i64 0) 1 ht hi hz0 hz1 .i64 .i64 n n n hl hc rfl rfl (by rw [hz2]; omega) (by simp [maxLen]; omega) hold.size fun w' h1 h2 => ?_
  refine hK w' ?_ ⟨h2.os, h2.tape, h2.output, h2.size, fun k hk => h2.block k hk (by simp)⟩ (h1.lt _ rfl).2
  unfold OwnI
  rw [List.length_replicate, List.map_replicate]
  simpa [toList_madeCells_one, Value.cells] using h1
end
end Go.Proofs.YtpifkinlaicliaaDoor
