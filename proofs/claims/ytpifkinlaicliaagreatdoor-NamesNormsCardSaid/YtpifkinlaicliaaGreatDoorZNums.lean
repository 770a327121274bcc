/-
  SLICES OF NUMBERS OF ANY KIND, over no program: as 'Ints', 'OwnI' of the ground, the kind a variable.
-/
import Derived.Test.YtpifkinlaicliaaGreatDoorZOwn
namespace Go.Proofs.YtpifkinlaicliaaGreatDoor
open Go.RowKit
variable {k : IntKind}

def Nums (k : IntKind) (w : World) (v : Value) (l : List Int) : Prop :=
  ∃ a cap b off, v = .slice a l.length cap ∧ l.length ≤ cap ∧ cap ≤ 9223372036854775807 ∧ (0 < l.length → a = some ⟨b, off, none⟩) ∧ ∀ i, i < l.length → ∀ W, Old w W → W.cell? ⟨b, off + i, none⟩ = some (.int k (ix l i))
theorem Nums.old {w w' : World} {v : Value} {l : List Int} (h : Nums k w v l) (o : Old w w') : Nums k w' v l := by
  obtain ⟨a, cap, b, off, e, h1, h2, h3, h4⟩ := h
  exact ⟨a, cap, b, off, e, h1, h2, h3, fun i hi W hW => h4 i hi W (o.trans hW)⟩
theorem Nums.nil (w : World) : Nums k w (.slice none 0 0) [] := ⟨none, 0, 0, 0, rfl, by simp, by simp, by simp, by simp⟩
theorem Nums.mk {w : World} {b off cap : Nat} {l : List Int} (h1 : l.length ≤ cap) (h2 : cap ≤ 9223372036854775807) (h : ∀ i, i < l.length → w.cell? ⟨b, off + i, none⟩ = some (.int k (ix l i))) :
    Nums k w (.slice (some ⟨b, off, none⟩) l.length cap) l := ⟨_, cap, b, off, rfl, h1, h2, fun _ => rfl, fun i hi => later (h i hi)⟩
theorem Nums.of_row {w : World} {base e : Nat} {v : Value} {l : List Int} {n : Nat} (hn : n = l.length) (h : w.ownsRow base e 1 v n (l.map (.int k))) : Nums k w v l := by
  subst hn
  obtain ⟨hl, h⟩ := h
  rcases h with ⟨rfl, h0⟩ | ⟨g, cap, cur, rfl, hb, hg, hnc, hcm, hcs, htake⟩
  · have : l = [] := List.eq_nil_of_length_eq_zero h0
    subst this; exact Nums.nil w
  · refine Nums.mk hnc (by simpa [maxLen] using hcm) fun i hi => ?_
    have hown : w.ownsRow base e 1 (.slice (some ⟨g, 0, none⟩) l.length cap) l.length (l.map (.int k)) := ⟨hl, .inr ⟨g, cap, cur, rfl, hb, hg, hnc, hcm, hcs, htake⟩⟩
    rw [Nat.zero_add, hown.cellAt i (by omega)]
    simp [ix, List.getD, hi]
theorem Nums.one (w : World) (E : TypeId) (x : Int) : Nums k (w.alloc (.cells #[.int k x] E)) (.slice (some ⟨w.heap.size, 0, none⟩) 1 1) [x] :=
  Nums.mk (l := [x]) (cap := 1) (by simp) (by simp) (fun i hi => by
    obtain rfl : i = 0 := by simpa using hi
    simp [go_sem, ix])
def OwnN (k : IntKind) (E : TypeId) (w0 w : World) (v : Value) (l : List Int) : Prop := w.ownsRow w0.heap.size E 1 v l.length (l.map (.int k))
theorem OwnN.nums {E : TypeId} {w0 w : World} {v : Value} {l : List Int} (h : OwnN k E w0 w v l) : Nums k w v l := Nums.of_row rfl h
theorem OwnN.nil (E : TypeId) (w0 w : World) : OwnN k E w0 w (.slice none 0 0) [] := World.ownsRow_nil w _ E 1
theorem OwnN.kept {E : TypeId} {w0 w w' : World} {v : Value} {l : List Int} {row : Option Nat} (h : OwnN k E w0 w v l) (hg : w.grownBy w' row) (hne : v.ownBlock = none ∨ v.ownBlock ≠ row) : OwnN k E w0 w' v l := World.ownsRow.kept h hg hne
theorem OwnN.alloc {E : TypeId} {w0 w : World} {v : Value} {l : List Int} (h : OwnN k E w0 w v l) (o : Obj) : OwnN k E w0 (w.alloc o) v l := World.ownsRow.alloc h o
theorem OwnN.old {E : TypeId} {w0 w w' : World} {v : Value} {l : List Int} (h : OwnN k E w0 w v l) (o : Old w w') : OwnN k E w0 w' v l := by
  have hg := Old.grownBy o none
  exact World.ownsRow.kept h hg (by cases hv : v.ownBlock <;> simp)
theorem OwnN.len {E : TypeId} {w0 w : World} {a : Option Addr} {n cap : Nat} {l : List Int} (h : OwnN k E w0 w (.slice a n cap) l) : n = l.length := by
  obtain ⟨a', cap', e, _⟩ := ownsRow_form h
  simp at e
  exact e.2.1
theorem OwnN.block {E : TypeId} {w0 w : World} {a : Option Addr} {n cap : Nat} {l : List Int} (h : OwnN k E w0 w (.slice a n cap) l) (hl : 0 < l.length) : ∃ g, a = some ⟨g, 0, none⟩ ∧ w0.heap.size ≤ g ∧ g < w.heap.size := by
  obtain ⟨h1, ⟨h2, h0⟩ | ⟨g, c, cur, e, hb, hg, _⟩⟩ := h
  · omega
  · simp at e
    exact ⟨g, e.1, hb, (Array.getElem?_eq_some_iff.1 hg).1⟩
theorem OwnN.cell {E : TypeId} {w0 w : World} {g n cap : Nat} {l : List Int} (h : OwnN k E w0 w (.slice (some ⟨g, 0, none⟩) n cap) l) {j : Nat} (hk : j < l.length) : w.cell? ⟨g, j, none⟩ = some (.int k (ix l j)) := by
  obtain rfl := h.len
  rw [World.ownsRow.cellAt h j (by omega)]
  simp [ix, List.getD, hk]
theorem OwnN.frozen {E : TypeId} {w0 w : World} {g n cap : Nat} {l : List Int} (h : OwnN k E w0 w (.slice (some ⟨g, 0, none⟩) n cap) l) (j : Nat) : w.frozen? ⟨g, j, none⟩ = false := by
  obtain rfl := h.len
  exact World.ownsRow.frozenAt h j
theorem OwnN.stored {E : TypeId} {w0 w : World} {g n cap : Nat} {l : List Int} (h : OwnN k E w0 w (.slice (some ⟨g, 0, none⟩) n cap) l) (j : Nat) (x : Int) : OwnN k E w0 (w.setCell ⟨g, j, none⟩ (.int k x)) (.slice (some ⟨g, 0, none⟩) n cap) (l.set j x) := by
  obtain rfl := h.len
  have := (World.ownsRow.stored h j (.int k x)).1
  unfold OwnN
  rw [List.length_set, List.map_set]
  exact this
theorem OwnN.drew {E : TypeId} {w0 w : World} {v : Value} {l : List Int} (h : OwnN k E w0 w v l) : OwnN k E w0 w.drew v l := h
theorem Nums.form {w : World} {v : Value} {l : List Int} (h : Nums k w v l) : ∃ a cap, v = .slice a l.length cap ∧ l.length ≤ cap ∧ cap ≤ 9223372036854775807 := by
  obtain ⟨a, cap, b, off, e, h1, h2, _⟩ := h; exact ⟨a, cap, e, h1, h2⟩
theorem OwnN.lower {E : TypeId} {w0 w1 w : World} {v : Value} {l : List Int} (h : OwnN k E w1 w v l) (hs : w0.heap.size ≤ w1.heap.size) : OwnN k E w0 w v l := by
  obtain ⟨h1, h2⟩ := h
  refine ⟨h1, ?_⟩
  rcases h2 with h2 | ⟨g, cap, cur, e, hb, r⟩
  · exact .inl h2
  · exact .inr ⟨g, cap, cur, e, Nat.le_trans hs hb, r⟩
theorem OwnN.but {E : TypeId} {w0 w w' : World} {a : Option Addr} {n cap : Nat} {l : List Int} {g : Nat} (h : OwnN k E w0 w (.slice a n cap) l) (o : OldBut g w w') (hg : ∀ x, a = some x → x.block ≠ g) : OwnN k E w0 w' (.slice a n cap) l := by
  obtain ⟨h1, h2⟩ := h
  refine ⟨h1, ?_⟩
  rcases h2 with h2 | ⟨g', cap', cur, e, hb, hc, r⟩
  · exact .inl h2
  · refine .inr ⟨g', cap', cur, e, hb, ?_, r⟩
    simp at e
    rw [o.block g' (Array.getElem?_eq_some_iff.1 hc).1 (hg _ e.1)]
    exact hc
theorem OwnN.setCell_other {E : TypeId} {w0 w : World} {a : Option Addr} {n cap : Nat} {l : List Int} {g o : Nat} (h : OwnN k E w0 w (.slice a n cap) l) (v : Value) (hg : ∀ x, a = some x → x.block ≠ g) : OwnN k E w0 (w.setCell ⟨g, o, none⟩ v) (.slice a n cap) l :=
  h.but ((OldBut.refl g w).setCell o v) hg
section
variable {P : Program} {ops : Array Oper} {rest : List Oper} {o : Oper} {a : Act} {Q : Exit → Act → World → Prop}
theorem nums_one (l : List Int) : ∀ u ∈ l.map (Value.int k), u.oneCell' = true := ints_oneCell k l
theorem Nums.cells {w : World} {b off : Nat} {l : List Int} (h4 : ∀ i, i < l.length → ∀ W, Old w W → W.cell? ⟨b, off + i, none⟩ = some (.int k (ix l i))) {W : World} (hW : Old w W) :
    ∀ j u, (l.map (Value.int k))[j]? = some u → W.cell? ((⟨b, off, none⟩ : Addr).add j) = some u := by
  intro j u hu
  have hj : j < l.length := by simpa using (List.getElem?_eq_some_iff.1 hu).1
  rw [Addr.add_lit, h4 j hj W hW, ← hu]
  simp [ix, List.getD, hj]
theorem wpList_append_nums {w0 w : World} (hgd : o.guard = none) (s x : Operand) (T : TypeId) (ho : o.op = .call { callee := .builtin .append, args := #[s, x], argTypes := #[T, T] })
    (E : TypeId) (ht : P.underlying T = some (.slice E)) {bytes : Nat} (hinfo : (P.info? E).map (fun i => (i.zero, i.size, i.bytes)) = some (some (.int k 0), 1, bytes))
    (v : Value) (l u : List Int) (hs : a.eval s = v) (hown : OwnN k E w0 w v l) (vx : Value) (hx : a.eval x = vx) (hu : Nums k w vx u)
    (h63 : l.length + u.length ≤ 9223372036854775807) (hbytes : (l.length + u.length) * bytes ≤ 140737488355328) (hold : Old w0 w)
    (h : ∀ v' w', OwnN k E w0 w' v' (l ++ u) → Old w0 w' → w.grownBy w' v.ownBlock → wpList P ops Q rest (a.put o.dst v') w') : wpList P ops Q (o :: rest) a w := by
  obtain ⟨ao, cap, b, off, rfl, hn1, hn2, ha, ht0⟩ := hu
  exact wpList_append_any hgd s x T ho E ht (.int k 0) 1 bytes hinfo rfl (by decide) v l.length (l.map (.int k)) hs hown ao u.length cap (u.map (.int k)) hx (by simp) ⟨b, off, none⟩ ha (Nums.cells ht0 (Old.refl w)) (nums_one u)
    h63 hbytes hold (fun v' w' k1 k2 k3 => h v' w' (by unfold OwnN; rw [List.map_append, List.length_append]; exact k1) k2 k3)
theorem wpList_make_nums {w0 w : World} (hg : o.guard = none) (l c : Operand) (T : TypeId) (hop : o.op = Op.makeSlice T l c) (E : TypeId) (ht : P.underlying T = some (.slice E))
    {bytes : Nat} (hinfo : (P.info? E).map (fun i => (i.zero, i.size, i.bytes)) = some (some (.int k 0), 1, bytes)) (n : Nat) (hl : a.eval l = .int .i64 n) (hc : a.eval c = .int .i64 n) (hn : n ≤ 9223372036854775807) (hnb : bytes * n ≤ 281474976710656) (hold : Old w0 w)
    (hK : ∀ w', OwnN k E w0 w' (.slice (some ⟨w.heap.size, 0, none⟩) n n) (List.replicate n 0) → Old w w' → w.heap.size < w'.heap.size → wpList P ops Q rest (a.put o.dst (.slice (some ⟨w.heap.size, 0, none⟩) n n)) w') : wpList P ops Q (o :: rest) a w := by
  obtain ⟨i, hi, hz0, hz1, hz2⟩ := info_parts hinfo
  refine wpList_make_full w hg l c T hop w0.heap.size E i (.int k 0) 1 ht hi hz0 hz1 .i64 .i64 n n n hl hc rfl rfl (by rw [hz2]; exact hnb) (by simpa [maxLen] using hn) hold.size fun w' h1 h2 => ?_
  refine hK w' ?_ ⟨h2.os, h2.tape, h2.output, h2.size, fun k hk => h2.block k hk (by simp)⟩ (h1.lt _ rfl).2
  unfold OwnN
  rw [List.length_replicate, List.map_replicate]
  simpa [toList_madeCells_one, Value.cells] using h1
theorem wpList_append_num1 {w0 w : World} (hgd : o.guard = none) (s x : Operand) (T : TypeId) (ho : o.op = .call { callee := .builtin .append, args := #[s, x], argTypes := #[T, T] })
    (E : TypeId) (ht : P.underlying T = some (.slice E)) {bytes : Nat} (hinfo : (P.info? E).map (fun i => (i.zero, i.size, i.bytes)) = some (some (.int k 0), 1, bytes))
    (v : Value) (l : List Int) (hs : a.eval s = v) (hown : OwnN k E w0 w v l) (b : Nat) (y : Int) (hx : a.eval x = .slice (some ⟨b, 0, none⟩) 1 1) (hc : w.cell? ⟨b, 0, none⟩ = some (.int k y))
    (h63 : l.length + 1 ≤ 9223372036854775807) (hbytes : (l.length + 1) * bytes ≤ 140737488355328) (hold : w0.heap.size ≤ w.heap.size)
    (h : ∀ v' w', OwnN k E w0 w' v' (l ++ [y]) → w.grownBy w' v.ownBlock → wpList P ops Q rest (a.put o.dst v') w') : wpList P ops Q (o :: rest) a w := by
  obtain ⟨i, hi, hz0, hz1, hz2⟩ := info_parts hinfo
  refine wpList_append_own w hgd s x T ho w0.heap.size E i (.int k 0) 1 bytes ht hi hz0 hz1 hz2 rfl (by decide) v l.length (l.map (.int k)) hs hown ⟨b, 0, none⟩ 1 1 [.int k y] hx rfl ?_ (by simp [Value.oneCell']) (by simpa [maxLen] using h63) hbytes hold ?_
  · intro j u hu
    match j, hu with
    | 0, hu => simp at hu; subst hu; exact hc
  · intro v' w' a1 a2 _
    refine h v' w' ?_ a2
    unfold OwnN
    rw [List.map_append, List.length_append]
    exact a1
end

end Go.Proofs.YtpifkinlaicliaaGreatDoor
