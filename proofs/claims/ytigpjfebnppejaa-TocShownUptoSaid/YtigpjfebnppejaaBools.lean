/-
  OWNED ROWS OF BOOLEANS; one number appended to a row, over no program.
-/
import Derived.Test.YtigpjfebnppejaaOwn
import Derived.Test.YtigpjfebnppejaaTocPlain5
namespace Go.Proofs.Ytigpjfebnppejaa
open Go.RowKit

def OwnB (E : TypeId) (w0 w : World) (v : Value) (l : List Bool) : Prop := w.ownsRow w0.heap.size E 1 v l.length (l.map (.bool))
theorem OwnB.nil (E : TypeId) (w0 w : World) : OwnB E w0 w (.slice none 0 0) [] := World.ownsRow_nil w _ E 1
theorem OwnB.kept {E : TypeId} {w0 w w' : World} {v : Value} {l : List Bool} {row : Option Nat} (h : OwnB E w0 w v l) (hg : w.grownBy w' row) (hne : v.ownBlock = none ∨ v.ownBlock ≠ row) : OwnB E w0 w' v l := World.ownsRow.kept h hg hne
theorem OwnB.alloc {E : TypeId} {w0 w : World} {v : Value} {l : List Bool} (h : OwnB E w0 w v l) (o : Obj) : OwnB E w0 (w.alloc o) v l := World.ownsRow.alloc h o
theorem OwnB.old {E : TypeId} {w0 w w' : World} {v : Value} {l : List Bool} (h : OwnB E w0 w v l) (o : Old w w') : OwnB E w0 w' v l := by
  have hg := Old.grownBy o none
  exact World.ownsRow.kept h hg (by cases hv : v.ownBlock <;> simp)
theorem OwnB.len {E : TypeId} {w0 w : World} {a : Option Addr} {n cap : Nat} {l : List Bool} (h : OwnB E w0 w (.slice a n cap) l) : n = l.length := by
  obtain ⟨a', cap', e, _⟩ := ownsRow_form h
  simp at e
  exact e.2.1
theorem OwnB.block {E : TypeId} {w0 w : World} {a : Option Addr} {n cap : Nat} {l : List Bool} (h : OwnB E w0 w (.slice a n cap) l) (hl : 0 < l.length) : ∃ g, a = some ⟨g, 0, none⟩ ∧ w0.heap.size ≤ g ∧ g < w.heap.size := by
  obtain ⟨h1, ⟨h2, h0⟩ | ⟨g, c, cur, e, hb, hg, _⟩⟩ := h
  · omega
  · simp at e
    exact ⟨g, e.1, hb, (Array.getElem?_eq_some_iff.1 hg).1⟩
theorem OwnB.cell {E : TypeId} {w0 w : World} {g n cap : Nat} {l : List Bool} (h : OwnB E w0 w (.slice (some ⟨g, 0, none⟩) n cap) l) {k : Nat} (hk : k < l.length) : w.cell? ⟨g, k, none⟩ = some (.bool (bx l k)) := by
  obtain rfl := h.len
  rw [World.ownsRow.cellAt h k (by omega)]
  simp [bx, List.getD, hk]
theorem OwnB.frozen {E : TypeId} {w0 w : World} {g n cap : Nat} {l : List Bool} (h : OwnB E w0 w (.slice (some ⟨g, 0, none⟩) n cap) l) (k : Nat) : w.frozen? ⟨g, k, none⟩ = false := by
  obtain rfl := h.len
  exact World.ownsRow.frozenAt h k
theorem OwnB.stored {E : TypeId} {w0 w : World} {g n cap : Nat} {l : List Bool} (h : OwnB E w0 w (.slice (some ⟨g, 0, none⟩) n cap) l) (k : Nat) (x : Bool) : OwnB E w0 (w.setCell ⟨g, k, none⟩ (.bool x)) (.slice (some ⟨g, 0, none⟩) n cap) (l.set k x) := by
  obtain rfl := h.len
  have := (World.ownsRow.stored h k (.bool x)).1
  unfold OwnB
  rw [List.length_set, List.map_set]
  exact this
theorem OwnB.drew {E : TypeId} {w0 w : World} {v : Value} {l : List Bool} (h : OwnB E w0 w v l) : OwnB E w0 w.drew v l := h
theorem OwnB.lower {E : TypeId} {w0 w1 w : World} {v : Value} {l : List Bool} (h : OwnB E w1 w v l) (hs : w0.heap.size ≤ w1.heap.size) : OwnB E w0 w v l := by
  obtain ⟨h1, h2⟩ := h
  refine ⟨h1, ?_⟩
  rcases h2 with h2 | ⟨g, cap, cur, e, hb, r⟩
  · exact .inl h2
  · exact .inr ⟨g, cap, cur, e, Nat.le_trans hs hb, r⟩
theorem OwnB.but {E : TypeId} {w0 w w' : World} {a : Option Addr} {n cap : Nat} {l : List Bool} {g : Nat} (h : OwnB E w0 w (.slice a n cap) l) (o : OldBut g w w') (hg : ∀ x, a = some x → x.block ≠ g) : OwnB E w0 w' (.slice a n cap) l := by
  obtain ⟨h1, h2⟩ := h
  refine ⟨h1, ?_⟩
  rcases h2 with h2 | ⟨g', cap', cur, e, hb, hc, r⟩
  · exact .inl h2
  · refine .inr ⟨g', cap', cur, e, hb, ?_, r⟩
    simp at e
    rw [o.block g' (Array.getElem?_eq_some_iff.1 hc).1 (hg _ e.1)]
    exact hc
theorem OwnB.setCell_other {E : TypeId} {w0 w : World} {a : Option Addr} {n cap : Nat} {l : List Bool} {g o : Nat} (h : OwnB E w0 w (.slice a n cap) l) (v : Value) (hg : ∀ x, a = some x → x.block ≠ g) : OwnB E w0 (w.setCell ⟨g, o, none⟩ v) (.slice a n cap) l :=
  h.but ((OldBut.refl g w).setCell o v) hg
section
variable {P : Program} {ops : Array Oper} {rest : List Oper} {o : Oper} {a : Act} {Q : Exit → Act → World → Prop}
theorem wpList_make_bools {w0 w : World} (hg : o.guard = none) (l c : Operand) (T : TypeId) (hop : o.op = Op.makeSlice T l c) (E : TypeId) (ht : P.underlying T = some (.slice E))
    (hinfo : (P.info? E).map (fun i => (i.zero, i.size, i.bytes)) = some (some (.bool false), 1, 1)) (n : Nat) (hl : a.eval l = .int .i64 n) (hc : a.eval c = .int .i64 n) (hn : n ≤ 1073741824) (hold : Old w0 w)
    (hK : ∀ w', OwnB E w0 w' (.slice (some ⟨w.heap.size, 0, none⟩) n n) (List.replicate n false) → Old w w' → w.heap.size < w'.heap.size → wpList P ops Q rest (a.put o.dst (.slice (some ⟨w.heap.size, 0, none⟩) n n)) w') : wpList P ops Q (o :: rest) a w := by
  obtain ⟨i, hi, hz0, hz1, hz2⟩ := info_parts hinfo
  refine wpList_make_full w hg l c T hop w0.heap.size E i (.bool false) 1 ht hi hz0 hz1 .i64 .i64 n n n hl hc rfl rfl (by rw [hz2]; omega) (by simp [maxLen]; omega) hold.size fun w' h1 h2 => ?_
  refine hK w' ?_ ⟨h2.os, h2.tape, h2.output, h2.size, fun k hk => h2.block k hk (by simp)⟩ (h1.lt _ rfl).2
  unfold OwnB
  rw [List.length_replicate, List.map_replicate]
  simpa [toList_madeCells_one, Value.cells] using h1
/-- append of one number to a row that is owned from any place on; nothing is said of what lies ahead but that it is kept -/
theorem wpList_append_int1 {w0 w : World} (hgd : o.guard = none) (s x : Operand) (T : TypeId) (ho : o.op = .call { callee := .builtin .append, args := #[s, x], argTypes := #[T, T] })
    (E : TypeId) (ht : P.underlying T = some (.slice E)) (hinfo : (P.info? E).map (fun i => (i.zero, i.size, i.bytes)) = some (some (.int .i64 0), 1, 8))
    (v : Value) (l : List Int) (hs : a.eval s = v) (hown : OwnI E w0 w v l) (b : Nat) (y : Int) (hx : a.eval x = .slice (some ⟨b, 0, none⟩) 1 1) (hc : w.cell? ⟨b, 0, none⟩ = some (.int .i64 y))
    (hbytes : (l.length + 1) * 8 ≤ 140737488355328) (hold : w0.heap.size ≤ w.heap.size)
    (h : ∀ v' w', OwnI E w0 w' v' (l ++ [y]) → w.grownBy w' v.ownBlock → wpList P ops Q rest (a.put o.dst v') w') : wpList P ops Q (o :: rest) a w := by
  obtain ⟨i, hi, hz0, hz1, hz2⟩ := info_parts hinfo
  refine wpList_append_own w hgd s x T ho w0.heap.size E i (.int .i64 0) 1 8 ht hi hz0 hz1 hz2 rfl (by decide) v l.length (l.map (.int .i64)) hs hown ⟨b, 0, none⟩ 1 1 [.int .i64 y] hx rfl ?_ (by simp [Value.oneCell']) (by simp only [maxLen]; omega) hbytes hold ?_
  · intro j u hu
    match j, hu with
    | 0, hu => simp at hu; subst hu; exact hc
  · intro v' w' a1 a2 _
    refine h v' w' ?_ a2
    unfold OwnI
    rw [List.map_append, List.length_append]
    exact a1
end

end Go.Proofs.Ytigpjfebnppejaa
