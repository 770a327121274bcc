/-
  LINK, PLAIN, 2: ways in a graph, how far one is, the search by a queue.
-/
import Derived.Test.YtkaoipegbjmlnaaDoorZLinkP
import Derived.Test.YtkaoipegbjmlnaaDoorZOwn
import Derived.ArgAppend
namespace Go.Proofs.YtkaoipegbjmlnaaDoor

/-- a way of so many steps -/
inductive Walk (E : Int → Int → Bool) : Nat → Int → Int → Prop
  | nil (a : Int) : Walk E 0 a a
  | snoc {n : Nat} {a b c : Int} (h : Walk E n a b) (e : E b c = true) : Walk E (n + 1) a c
/-- so far is one, and no nearer -/
def DistIs (E : Int → Int → Bool) (a b : Int) (d : Nat) : Prop := Walk E d a b ∧ ∀ n, Walk E n a b → d ≤ n
theorem DistIs.unique {E : Int → Int → Bool} {a b : Int} {d e : Nat} (h : DistIs E a b d) (k : DistIs E a b e) : d = e := by
  have h1 := h.2 e k.1
  have h2 := k.2 d h.1
  omega
theorem DistIs.self (E : Int → Int → Bool) (a : Int) : DistIs E a a 0 := ⟨Walk.nil a, fun _ _ => Nat.zero_le _⟩
/-- on a way from one that is marked to one that is not a step leaves what is marked -/
theorem Walk.leaves {E : Int → Int → Bool} {F : Int → Option Nat} {a : Int} : ∀ {m : Nat} {b : Int}, Walk E m a b → F a ≠ none → F b = none → ∃ j u v, j < m ∧ Walk E j a u ∧ E u v = true ∧ F u ≠ none ∧ F v = none
  | 0, _, .nil _, h1, h2 => absurd h2 h1
  | m + 1, c, .snoc (b := b) h e, h1, h2 => by
    cases hb : F b with
    | none =>
      obtain ⟨j, u, v, hj, k⟩ := h.leaves h1 hb
      exact ⟨j, u, v, by omega, k⟩
    | some d => exact ⟨m, b, c, by omega, h, e, by rw [hb]; simp, h2⟩
/-- the search by a queue: what is marked is marked by how far it is; what has left the queue has all it refers to marked -/
structure Bfs (E : Int → Int → Bool) (src : Int) (F : Int → Option Nat) (q : List Int) : Prop where
  start : F src = some 0
  dist : ∀ x d, F x = some d → DistIs E src x d
  inq : ∀ x ∈ q, F x ≠ none
  nodup : q.Nodup
  sorted : q.Pairwise fun x y => ∀ d e, F x = some d → F y = some e → d ≤ e ∧ e ≤ d + 1
  done : ∀ x, F x ≠ none → x ∉ q → ∀ y, E x y = true → F y ≠ none
theorem Bfs.init (E : Int → Int → Bool) (src : Int) : Bfs E src (fun x => if x = src then some 0 else none) [src] where
  start := if_pos rfl
  dist x d h := by
    try dsimp only at h
    split at h
    · rename_i e
      obtain rfl := Option.some.inj h
      rw [e]; exact DistIs.self E src
    · cases h
  inq x hx := by rw [List.mem_singleton.1 hx]; simp
  nodup := by simp
  sorted := List.pairwise_singleton _ _
  done x hx hq := by
    exfalso
    try dsimp only at hx
    split at hx
    · rename_i e; exact hq (by simp [e])
    · exact hx rfl
/-- one more is marked -/
theorem Bfs.mark {E : Int → Int → Bool} {src t n : Int} {F : Int → Option Nat} {q : List Int} {d : Nat} (h : Bfs E src F (t :: q)) (ht : F t = some d) (he : E t n = true) (hn : F n = none) :
    Bfs E src (fun x => if x = n then some (d + 1) else F x) (t :: (q ++ [n])) := by
  have hns : n ≠ src := fun e => by rw [e, h.start] at hn; cases hn
  have hnt : n ≠ t := fun e => by rw [e, ht] at hn; cases hn
  obtain ⟨hs1, hs2⟩ := List.pairwise_cons.1 h.sorted
  have hdist : DistIs E src n (d + 1) := by
    refine ⟨(h.dist t d ht).1.snoc he, fun m hm => ?_⟩
    rcases Nat.lt_or_ge d m with c | c
    · exact c
    · exfalso
      obtain ⟨j, u, v, hj, hw, hE, hu, hv⟩ := hm.leaves (F := F) (by rw [h.start]; simp) hn
      obtain ⟨du, hdu⟩ : ∃ du, F u = some du := Option.ne_none_iff_exists'.1 hu
      have hle := (h.dist u du hdu).2 j hw
      refine h.done u hu (fun hmem => ?_) v hE hv
      rcases List.mem_cons.1 hmem with e | hmem
      · rw [e, ht] at hdu
        have := Option.some.inj hdu
        omega
      · have := (hs1 u hmem d du ht hdu).1
        omega
  have hold : ∀ x, x ≠ n → (if x = n then some (d + 1) else F x) = F x := fun x hx => if_neg hx
  have hmem : ∀ x ∈ t :: q, x ≠ n := fun x hx e => h.inq x hx (by rw [e]; exact hn)
  refine ⟨by rw [hold src (Ne.symm hns)]; exact h.start, fun x e hx => ?_, fun x hx => ?_, ?_, ?_, fun x hx hq y hy => ?_⟩
  · try dsimp only at hx
    split at hx
    · rename_i e2
      rw [e2, ← Option.some.inj hx]; exact hdist
    · exact h.dist x e hx
  · try dsimp only
    split
    · simp
    · rename_i e2
      refine h.inq x ?_
      rw [← List.cons_append] at hx
      rcases List.mem_append.1 hx with hx | hx
      · exact hx
      · exact absurd (List.mem_singleton.1 hx) e2
  · rw [← List.cons_append]
    refine List.nodup_append.2 ⟨h.nodup, by simp, fun a ha b hb => ?_⟩
    rw [List.mem_singleton.1 hb]
    exact hmem a ha
  · rw [← List.cons_append]
    refine List.pairwise_append.2 ⟨?_, List.pairwise_singleton _ _, fun x hx y hy => ?_⟩
    · refine h.sorted.imp_of_mem fun {x y} hx hy k => ?_
      try dsimp only
      rw [hold x (hmem x hx), hold y (hmem y hy)]
      exact k
    · rw [List.mem_singleton.1 hy]
      try dsimp only
      rw [hold x (hmem x hx), if_pos rfl]
      intro a b ha hb
      obtain rfl := Option.some.inj hb
      rcases List.mem_cons.1 hx with e | hx
      · rw [e, ht] at ha
        have := Option.some.inj ha
        omega
      · have := hs1 x hx d a ht ha
        omega
  · try dsimp only at hx ⊢
    split
    · simp
    · by_cases hxn : x = n
      · exact absurd (by rw [hxn]; simp) hq
      · rw [hold x hxn] at hx
        refine h.done x hx (fun hm => hq ?_) y hy
        rcases List.mem_cons.1 hm with e | hm
        · rw [e]; simp
        · exact List.mem_cons_of_mem _ (List.mem_append_left _ hm)
/-- the first has left the queue: all that it refers to is marked -/
theorem Bfs.pop {E : Int → Int → Bool} {src t : Int} {F : Int → Option Nat} {q : List Int} (h : Bfs E src F (t :: q)) (ha : ∀ y, E t y = true → F y ≠ none) : Bfs E src F q where
  start := h.start
  dist := h.dist
  inq x hx := h.inq x (List.mem_cons_of_mem _ hx)
  nodup := (List.nodup_cons.1 h.nodup).2
  sorted := (List.pairwise_cons.1 h.sorted).2
  done x hx hq y hy := by
    by_cases e : x = t
    · exact ha y (by rw [← e]; exact hy)
    · exact h.done x hx (fun hm => by rcases List.mem_cons.1 hm with k | k; exact e k; exact hq k) y hy
/-- the queue is empty: what is marked is what can be reached -/
theorem Bfs.reach {E : Int → Int → Bool} {src : Int} {F : Int → Option Nat} (h : Bfs E src F []) {x : Int} {n : Nat} (hw : Walk E n src x) : F x ≠ none := fun hx => by
  obtain ⟨j, u, v, _, _, hE, hu, hv⟩ := hw.leaves (F := F) (by rw [h.start]; simp) hx
  exact h.done u hu (by simp) v hE hv
theorem Bfs.says {E : Int → Int → Bool} {src : Int} {F : Int → Option Nat} (h : Bfs E src F []) (x : Int) (d : Nat) : F x = some d ↔ DistIs E src x d := by
  constructor
  · exact h.dist x d
  · intro hd
    obtain ⟨e, he⟩ : ∃ e, F x = some e := Option.ne_none_iff_exists'.1 (h.reach hd.1)
    rw [he, (h.dist x e he).unique hd]
end Go.Proofs.YtkaoipegbjmlnaaDoor
/-
  A QUEUE OF THE CALL's OWN: a slice of integers that may begin within its block; over no program.
-/


namespace Go.Proofs.YtkaoipegbjmlnaaDoor
open Go.RowKit

def OwnQ (E : TypeId) (w0 w : World) (v : Value) (q : List Int) : Prop :=
  ∃ (g o cap : Nat) (cur : Array Value), v = .slice (some ⟨g, o, none⟩) q.length cap ∧ w0.heap.size ≤ g ∧ w.heap[g]? = some (.cells cur E (0, 0)) ∧ q.length ≤ cap ∧ cap ≤ 9223372036854775807 ∧ o + cap ≤ cur.size ∧
    ∀ i, i < q.length → cur[o + i]? = some (.int .i64 (ix q i))
theorem OwnQ.one {E : TypeId} {w0 w : World} (x : Int) (h : w0.heap.size ≤ w.heap.size) : OwnQ E w0 (w.alloc (.cells #[.int .i64 x] E)) (.slice (some ⟨w.heap.size, 0, none⟩) 1 1) [x] :=
  ⟨w.heap.size, 0, 1, _, rfl, h, heap_alloc_new w _, Nat.le_refl _, by omega, Nat.le_refl _, fun i hi => by
    obtain rfl : i = 0 := by simpa using hi
    rfl⟩
theorem OwnQ.kept {E : TypeId} {w0 w w' : World} {v : Value} {q : List Int} {row : Option Nat} (h : OwnQ E w0 w v q) (hg : w.grownBy w' row) (hne : v.ownBlock ≠ row) : OwnQ E w0 w' v q := by
  obtain ⟨g, o, cap, cur, rfl, h1, h2, r⟩ := h
  exact ⟨g, o, cap, cur, rfl, h1, by rw [hg.block g (Array.getElem?_eq_some_iff.1 h2).1 hne]; exact h2, r⟩
theorem OwnQ.old {E : TypeId} {w0 w w' : World} {v : Value} {q : List Int} (h : OwnQ E w0 w v q) (ho : Old w w') : OwnQ E w0 w' v q := by
  obtain ⟨g, o, cap, cur, rfl, h1, h2, r⟩ := h
  exact ⟨g, o, cap, cur, rfl, h1, by rw [ho.block g (Array.getElem?_eq_some_iff.1 h2).1]; exact h2, r⟩
theorem OwnQ.form {E : TypeId} {w0 w : World} {v : Value} {q : List Int} (h : OwnQ E w0 w v q) : ∃ g o cap, v = .slice (some ⟨g, o, none⟩) q.length cap ∧ w0.heap.size ≤ g ∧ g < w.heap.size ∧ q.length ≤ cap ∧ cap ≤ 9223372036854775807 := by
  obtain ⟨g, o, cap, cur, rfl, h1, h2, h3, h4, _⟩ := h
  exact ⟨g, o, cap, rfl, h1, (Array.getElem?_eq_some_iff.1 h2).1, h3, h4⟩
theorem OwnQ.cell {E : TypeId} {w0 w : World} {g o n cap : Nat} {q : List Int} (h : OwnQ E w0 w (.slice (some ⟨g, o, none⟩) n cap) q) {i : Nat} (hi : i < q.length) : w.cell? ⟨g, o + i, none⟩ = some (.int .i64 (ix q i)) := by
  obtain ⟨g', o', cap', cur, e, h1, h2, h3, h4, h5, h6⟩ := h
  injection e with e1 e2 e3
  injection e1 with e1
  injection e1 with e1 e4
  subst e1; subst e4
  rw [cell_of_row w g (o + i) cur E (0, 0) h2]
  exact h6 i hi
theorem OwnQ.tail {E : TypeId} {w0 w : World} {g o n cap : Nat} {x : Int} {q : List Int} (h : OwnQ E w0 w (.slice (some ⟨g, o, none⟩) n cap) (x :: q)) : OwnQ E w0 w (.slice (some ⟨g, o + 1, none⟩) q.length (cap - 1)) q := by
  obtain ⟨g', o', cap', cur, e, h1, h2, h3, h4, h5, h6⟩ := h
  injection e with e1 e2 e3
  injection e1 with e1
  injection e1 with e1 e4
  subst e1; subst e4; subst e3
  rw [List.length_cons] at h3
  refine ⟨g, o + 1, cap - 1, cur, rfl, h1, h2, by omega, by omega, by omega, fun i hi => ?_⟩
  have := h6 (i + 1) (by simp; omega)
  rw [show o + 1 + i = o + (i + 1) from by omega, this]
  simp [ix, List.getD]
theorem OwnQ.last {E : TypeId} {w0 w : World} {g o n : Nat} {x : Int} {q : List Int} (h : OwnQ E w0 w (.slice (some ⟨g, o, none⟩) n 1) (x :: q)) : q = [] ∧ OwnQ E w0 w (.slice (some ⟨g, o, none⟩) 0 0) [] := by
  obtain ⟨g', o', cap', cur, e, h1, h2, h3, h4, h5, h6⟩ := h
  injection e with e1 e2 e3
  injection e1 with e1
  injection e1 with e1 e4
  subst e1; subst e4; subst e3
  rw [List.length_cons] at h3
  exact ⟨List.eq_nil_of_length_eq_zero (by omega), g, o, 0, cur, rfl, h1, h2, Nat.le_refl _, by omega, by omega, fun i hi => absurd hi (Nat.not_lt_zero i)⟩
section
variable {P : Program} {ops : Array Oper} {rest : List Oper} {o : Oper} {a : Act} {Q : Exit → Act → World → Prop}
theorem wpList_append_q {w0 w : World} (hgd : o.guard = none) (s x : Operand) (T : TypeId) (ho : o.op = .call { callee := .builtin .append, args := #[s, x], argTypes := #[T, T] })
    (E : TypeId) (ht : P.underlying T = some (.slice E)) (hinfo : (P.info? E).map (fun i => (i.zero, i.size, i.bytes)) = some (some (.int .i64 0), 1, 8))
    (v : Value) (q : List Int) (hs : a.eval s = v) (hown : OwnQ E w0 w v q) (b : Nat) (y : Int) (hx : a.eval x = .slice (some ⟨b, 0, none⟩) 1 1) (hc : w.cell? ⟨b, 0, none⟩ = some (.int .i64 y))
    (hbytes : (q.length + 1) * 8 ≤ 140737488355328) (hold : w0.heap.size ≤ w.heap.size)
    (h : ∀ v' w', OwnQ E w0 w' v' (q ++ [y]) → w.grownBy w' v.ownBlock → (v'.ownBlock = v.ownBlock ∨ ∃ g, v'.ownBlock = some g ∧ w.heap.size ≤ g) → wpList P ops Q rest (a.put o.dst v') w') : wpList P ops Q (o :: rest) a w := by
  obtain ⟨i, hi, hz0, hz1, hz2⟩ := info_parts hinfo
  obtain ⟨g, of, cap, cur, rfl, h1, h2, h3, h4, h5, h6⟩ := hown
  refine wpList_append_arg w hgd s x T ho E i (.int .i64 0) 1 8 ht hi hz0 hz1 hz2 rfl (by decide) g of q.length cap (q.map (.int .i64)) hs (by simp) (fun j u hj => ?_) ⟨b, 0, none⟩ 1 1 [.int .i64 y] hx rfl (fun j u hu => ?_) (by simp [Value.oneCell']) (fun hr j hj => ?_) (by simp only [maxLen]; omega) hbytes (fun hr => ?_) (fun hr v' w' k1 k2 => ?_)
  · rw [cell_of_row w g (of + j) cur E (0, 0) h2]
    rw [List.getElem?_map] at hj
    obtain ⟨z, hz, rfl⟩ := Option.map_eq_some_iff.1 hj
    have hlt := (List.getElem?_eq_some_iff.1 hz).1
    rw [h6 j hlt]
    simp [ix, List.getD, hz]
  · match j, hu with
    | 0, hu => simp at hu; subst hu; exact hc
  · obtain rfl : j = 0 := by simpa using hj
    rw [Nat.mul_one, Nat.add_zero, cell_of_row w g (of + q.length) cur E (0, 0) h2, Array.getElem?_eq_getElem (by omega)]
    refine ⟨rfl, ?_⟩
    simp [World.frozen?, h2]
  · rw [Nat.mul_one]
    refine h _ _ ⟨g, of, cap, cur.setIfInBounds (of + q.length) (.int .i64 y), by rw [List.length_append]; rfl, h1, heap_setCell_same w g (of + q.length) cur E _ h2, by rw [List.length_append]; exact hr, h4, by simpa using h5, fun j hj => ?_⟩ ⟨rfl, rfl, rfl, (KeepsWalks.setCell w _ _).size, fun k _ hk => Below.heap_setCell _ _ _ k (fun e => hk (by rw [e]; rfl))⟩ (.inl rfl)
    rw [List.length_append, List.length_singleton] at hj
    by_cases e : j = q.length
    · subst e
      rw [Array.getElem?_setIfInBounds_self_of_lt (by omega)]
      simp [ix, List.getD]
    · rw [Array.getElem?_setIfInBounds_ne (by omega), h6 j (by omega)]
      simp [ix, List.getD, List.getElem?_append_left (show j < q.length by omega)]
  · obtain ⟨k3, ⟨_, k4⟩ | ⟨g', cap', cur', rfl, k5, k6, k7, k8, k9, k10⟩⟩ := k1
    · omega
    · refine h _ _ ⟨g', 0, cap', cur', by rw [List.length_append]; rfl, Nat.le_trans hold k5, k6, by rw [List.length_append]; exact k7, k8, by omega, fun j hj => ?_⟩ ⟨k2.os, k2.tape, k2.output, k2.size, fun k hk _ => k2.block k hk (by simp)⟩ (.inr ⟨g', rfl, k5⟩)
      rw [List.length_append, List.length_singleton] at hj
      have hk := congrArg (fun l => l[j]?) k10
      try dsimp only at hk
      rw [List.getElem?_take_of_lt (by omega), Array.getElem?_toList] at hk
      rw [Nat.zero_add, hk, show q.map (Value.int .i64) ++ [.int .i64 y] = (q ++ [y]).map (Value.int .i64) from by simp, List.getElem?_map, List.getElem?_eq_getElem (by simp; omega)]
      simp [ix, List.getD, List.getElem?_eq_getElem (show j < (q ++ [y]).length by simp; omega)]
end
end Go.Proofs.YtkaoipegbjmlnaaDoor
