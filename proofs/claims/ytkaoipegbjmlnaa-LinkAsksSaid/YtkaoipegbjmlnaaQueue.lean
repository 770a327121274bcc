/-
  A QUEUE OF THE CALL's OWN: a slice of integers that may begin within its block; over no program.
-/
import Derived.Test.YtkaoipegbjmlnaaOwn
import Derived.ArgAppend
namespace Go.Proofs.Ytkaoipegbjmlnaa
open Go.RowKit

def OwnQ (E : TypeId) (w0 w : World) (v : Value) (q : List Int) : Prop :=
  ∃ (g o cap : Nat) (cur : Array Value), v = .slice (some ⟨g, o, none⟩) q.length cap ∧ w0.heap.size ≤ g ∧ w.heap[g]? = some (.cells cur E (0, 0)) ∧ q.length ≤ cap ∧ cap ≤ 9223372036854775807 ∧ o + cap ≤ cur.size ∧
    ∀ i, i < q.length → cur[o + i]? = some (.int .i64 (ix q i))
theorem OwnQ.one {E : TypeId} {w0 w : World} (x : Int) (h : w0.heap.size ≤ w.heap.size) : OwnQ E w0 (w.alloc (.cells #[.int .i64 x] E)) (.slice (some ⟨w.heap.size, 0, none⟩) 1 1) [x] :=
  ⟨w.heap.size, 0, 1, _, rfl, h, heap_alloc_new w _, Nat.le_refl _, by omega, Nat.le_refl _, fun i hi => by
    obtain rfl : i = 0 := by simpa using hi
    rfl⟩
theorem OwnQ.kept {E : TypeId} {w0 w w' : World} {v : Value} {q : List Int} {row : Option Nat} (h : OwnQ E w0 w v q) (hg : w.grownBy w' row) (hne : v.ownBlock ≠ row) : OwnQ E w0 w' v q := by
  obtain ⟨g, o, cap, cur, rfl, h1, h2, r⟩ := h
  exact ⟨g, o, cap, cur, rfl, h1, by rw [hg.block g (Array.getElem?_eq_some_iff.1 h2).1 hne]; exact h2, r⟩
theorem OwnQ.old {E : TypeId} {w0 w w' : World} {v : Value} {q : List Int} (h : OwnQ E w0 w v q) (ho : Old w w') : OwnQ E w0 w' v q := by
  obtain ⟨g, o, cap, cur, rfl, h1, h2, r⟩ := h
  exact ⟨g, o, cap, cur, rfl, h1, by rw [ho.block g (Array.getElem?_eq_some_iff.1 h2).1]; exact h2, r⟩
theorem OwnQ.form {E : TypeId} {w0 w : World} {v : Value} {q : List Int} (h : OwnQ E w0 w v q) : ∃ g o cap, v = .slice (some ⟨g, o, none⟩) q.length cap ∧ w0.heap.size ≤ g ∧ g < w.heap.size ∧ q.length ≤ cap ∧ cap ≤ 9223372036854775807 := by
  obtain ⟨g, o, cap, cur, rfl, h1, h2, h3, h4, _⟩ := h
  exact ⟨g, o, cap, rfl, h1, (Array.getElem?_eq_some_iff.1 h2).1, h3, h4⟩
theorem OwnQ.cell {E : TypeId} {w0 w : World} {g o n cap : Nat} {q : List Int} (h : OwnQ E w0 w (.slice (some ⟨g, o, none⟩) n cap) q) {i : Nat} (hi : i < q.length) : w.cell? ⟨g, o + i, none⟩ = some (.int .i64 (ix q i)) := by
  obtain ⟨g', o', cap', cur, e, h1, h2, h3, h4, h5, h6⟩ := h
  injection e with e1 e2 e3
  injection e1 with e1
  injection e1 with e1 e4
  subst e1; subst e4
  rw [cell_of_row w g (o + i) cur E (0, 0) h2]
  exact h6 i hi
theorem OwnQ.tail {E : TypeId} {w0 w : World} {g o n cap : Nat} {x : Int} {q : List Int} (h : OwnQ E w0 w (.slice (some ⟨g, o, none⟩) n cap) (x :: q)) : OwnQ E w0 w (.slice (some ⟨g, o + 1, none⟩) q.length (cap - 1)) q := by
  obtain ⟨g', o', cap', cur, e, h1, h2, h3, h4, h5, h6⟩ := h
  injection e with e1 e2 e3
  injection e1 with e1
  injection e1 with e1 e4
  subst e1; subst e4; subst e3
  rw [List.length_cons] at h3
  refine ⟨g, o + 1, cap - 1, cur, rfl, h1, h2, by omega, by omega, by omega, fun i hi => ?_⟩
  have := h6 (i + 1) (by simp; omega)
  rw [show o + 1 + i = o + (i + 1) from by omega, this]
  simp [ix, List.getD]
theorem OwnQ.last {E : TypeId} {w0 w : World} {g o n : Nat} {x : Int} {q : List Int} (h : OwnQ E w0 w (.slice (some ⟨g, o, none⟩) n 1) (x :: q)) : q = [] ∧ OwnQ E w0 w (.slice (some ⟨g, o, none⟩) 0 0) [] := by
  obtain ⟨g', o', cap', cur, e, h1, h2, h3, h4, h5, h6⟩ := h
  injection e with e1 e2 e3
  injection e1 with e1
  injection e1 with e1 e4
  subst e1; subst e4; subst e3
  rw [List.length_cons] at h3
  exact ⟨List.eq_nil_of_length_eq_zero (by omega), g, o, 0, cur, rfl, h1, h2, Nat.le_refl _, by omega, by omega, fun i hi => absurd hi (Nat.not_lt_zero i)⟩
section
variable {P : Program} {ops : Array Oper} {rest : List Oper} {o : Oper} {a : Act} {Q : Exit → Act → World → Prop}
theorem wpList_append_q {w0 w : World} (hgd : o.guard = none) (s x : Operand) (T : TypeId) (ho : o.op = .call { callee := .builtin .append, args := #[s, x], argTypes := #[T, T] })
    (E : TypeId) (ht : P.underlying T = some (.slice E)) (hinfo : (P.info? E).map (fun i => (i.zero, i.size, i.bytes)) = some (some (.int .i64 0), 1, 8))
    (v : Value) (q : List Int) (hs : a.eval s = v) (hown : OwnQ E w0 w v q) (b : Nat) (y : Int) (hx : a.eval x = .slice (some ⟨b, 0, none⟩) 1 1) (hc : w.cell? ⟨b, 0, none⟩ = some (.int .i64 y))
    (hbytes : (q.length + 1) * 8 ≤ 140737488355328) (hold : w0.heap.size ≤ w.heap.size)
    (h : ∀ v' w', OwnQ E w0 w' v' (q ++ [y]) → w.grownBy w' v.ownBlock → (v'.ownBlock = v.ownBlock ∨ ∃ g, v'.ownBlock = some g ∧ w.heap.size ≤ g) → wpList P ops Q rest (a.put o.dst v') w') : wpList P ops Q (o :: rest) a w := by
  obtain ⟨i, hi, hz0, hz1, hz2⟩ := info_parts hinfo
  obtain ⟨g, of, cap, cur, rfl, h1, h2, h3, h4, h5, h6⟩ := hown
  refine wpList_append_arg w hgd s x T ho E i (.int .i64 0) 1 8 ht hi hz0 hz1 hz2 rfl (by decide) g of q.length cap (q.map (.int .i64)) hs (by simp) (fun j u hj => ?_) ⟨b, 0, none⟩ 1 1 [.int .i64 y] hx rfl (fun j u hu => ?_) (by simp [Value.oneCell']) (fun hr j hj => ?_) (by simp only [maxLen]; omega) hbytes (fun hr => ?_) (fun hr v' w' k1 k2 => ?_)
  · rw [cell_of_row w g (of + j) cur E (0, 0) h2]
    rw [List.getElem?_map] at hj
    obtain ⟨z, hz, rfl⟩ := Option.map_eq_some_iff.1 hj
    have hlt := (List.getElem?_eq_some_iff.1 hz).1
    rw [h6 j hlt]
    simp [ix, List.getD, hz]
  · match j, hu with
    | 0, hu => simp at hu; subst hu; exact hc
  · obtain rfl : j = 0 := by simpa using hj
    rw [Nat.mul_one, Nat.add_zero, cell_of_row w g (of + q.length) cur E (0, 0) h2, Array.getElem?_eq_getElem (by omega)]
    refine ⟨rfl, ?_⟩
    simp [World.frozen?, h2]
  · rw [Nat.mul_one]
    refine h _ _ ⟨g, of, cap, cur.setIfInBounds (of + q.length) (.int .i64 y), by rw [List.length_append]; rfl, h1, heap_setCell_same w g (of + q.length) cur E _ h2, by rw [List.length_append]; exact hr, h4, by simpa using h5, fun j hj => ?_⟩ ⟨rfl, rfl, rfl, (KeepsWalks.setCell w _ _).size, fun k _ hk => Below.heap_setCell _ _ _ k (fun e => hk (by rw [e]; rfl))⟩ (.inl rfl)
    rw [List.length_append, List.length_singleton] at hj
    by_cases e : j = q.length
    · subst e
      rw [Array.getElem?_setIfInBounds_self_of_lt (by omega)]
      simp [ix, List.getD]
    · rw [Array.getElem?_setIfInBounds_ne (by omega), h6 j (by omega)]
      simp [ix, List.getD, List.getElem?_append_left (show j < q.length by omega)]
  · obtain ⟨k3, ⟨_, k4⟩ | ⟨g', cap', cur', rfl, k5, k6, k7, k8, k9, k10⟩⟩ := k1
    · omega
    · refine h _ _ ⟨g', 0, cap', cur', by rw [List.length_append]; rfl, Nat.le_trans hold k5, k6, by rw [List.length_append]; exact k7, k8, by omega, fun j hj => ?_⟩ ⟨k2.os, k2.tape, k2.output, k2.size, fun k hk _ => k2.block k hk (by simp)⟩ (.inr ⟨g', rfl, k5⟩)
      rw [List.length_append, List.length_singleton] at hj
      have hk := congrArg (fun l => l[j]?) k10
      try dsimp only at hk
      rw [List.getElem?_take_of_lt (by omega), Array.getElem?_toList] at hk
      rw [Nat.zero_add, hk, show q.map (Value.int .i64) ++ [.int .i64 y] = (q ++ [y]).map (Value.int .i64) from by simp, List.getElem?_map, List.getElem?_eq_getElem (by simp; omega)]
      simp [ix, List.getD, List.getElem?_eq_getElem (show j < (q ++ [y]).length by simp; omega)]
end
end Go.Proofs.Ytkaoipegbjmlnaa
