/-
  SLICES OF RECORDS, over no program: elements of several cells, their cells by a function; read, owned, appended to, written in place.
-/
import Derived.Test.YtpifkinlaicliaaGreatDoorZOwn
namespace Go.Proofs.YtpifkinlaicliaaGreatDoor
open Go.RowKit

/-- how an element lies in memory -/
structure Enc (α : Type) where
  k : Nat
  enc : α → List Value
  len : ∀ x, (enc x).length = k
  one : ∀ x, ∀ u ∈ enc x, u.oneCell' = true
variable {α : Type} {c : Enc α}
def Enc.all (c : Enc α) (t : List α) : List Value := t.flatMap c.enc
theorem Enc.all_nil : c.all [] = [] := rfl
theorem Enc.all_cons (x : α) (t : List α) : c.all (x :: t) = c.enc x ++ c.all t := rfl
theorem Enc.all_append (t u : List α) : c.all (t ++ u) = c.all t ++ c.all u := by simp [Enc.all]
theorem Enc.all_one (x : α) : c.all [x] = c.enc x := by simp [Enc.all]
theorem Enc.all_length : ∀ t : List α, (c.all t).length = t.length * c.k
  | [] => by simp [Enc.all]
  | x :: t => by rw [Enc.all_cons, List.length_append, c.len, Enc.all_length t, List.length_cons, Nat.add_mul, Nat.one_mul, Nat.add_comm]
theorem Enc.cells_one (t : List α) : ∀ u ∈ c.all t, u.oneCell' = true := by
  intro u hu
  obtain ⟨x, _, hx⟩ := List.mem_flatMap.1 hu
  exact c.one x u hx
theorem Enc.all_at : ∀ {t : List α} {i j : Nat} {x : α} {u : Value}, t[i]? = some x → (c.enc x)[j]? = some u → (c.all t)[i * c.k + j]? = some u
  | [], i, j, x, u, hx, _ => by simp at hx
  | y :: t, 0, j, x, u, hx, hu => by
    obtain rfl : y = x := by simpa using hx
    have hj := (List.getElem?_eq_some_iff.1 hu).1
    rw [Enc.all_cons, Nat.zero_mul, Nat.zero_add, List.getElem?_append_left hj, hu]
  | y :: t, i + 1, j, x, u, hx, hu => by
    have ih := Enc.all_at (t := t) (i := i) (by simpa using hx) hu
    rw [Enc.all_cons, List.getElem?_append_right (by rw [c.len, Nat.add_mul]; omega), c.len, show (i + 1) * c.k + j - c.k = i * c.k + j from by rw [Nat.add_mul]; omega]
    exact ih
theorem Enc.all_set : ∀ {t : List α} {i j : Nat} {x x' : α} {v : Value}, t[i]? = some x → j < c.k → c.enc x' = (c.enc x).set j v → (c.all t).set (i * c.k + j) v = c.all (t.set i x')
  | [], i, j, x, x', v, hx, _, _ => by simp at hx
  | y :: t, 0, j, x, x', v, hx, hj, he => by
    obtain rfl : y = x := by simpa using hx
    rw [List.set_cons_zero, Enc.all_cons, Enc.all_cons, he, Nat.zero_mul, Nat.zero_add, List.set_append_left _ _ (by rw [c.len]; exact hj)]
  | y :: t, i + 1, j, x, x', v, hx, hj, he => by
    have ih := Enc.all_set (t := t) (i := i) (by simpa using hx) hj he
    rw [List.set_cons_succ, Enc.all_cons, Enc.all_cons, List.set_append_right _ _ (by rw [c.len, Nat.add_mul]; omega), c.len, show (i + 1) * c.k + j - c.k = i * c.k + j from by rw [Nat.add_mul]; omega, ih]

/-- v: a slice of records -/
def Recs (c : Enc α) (w : World) (v : Value) (t : List α) : Prop :=
  ∃ a cap b off, v = .slice a t.length cap ∧ t.length ≤ cap ∧ cap ≤ 9223372036854775807 ∧ (0 < t.length → a = some ⟨b, off, none⟩) ∧ ∀ j u, (c.all t)[j]? = some u → ∀ W, Old w W → W.cell? ⟨b, off + j, none⟩ = some u
theorem Recs.old {w w' : World} {v : Value} {t : List α} (h : Recs c w v t) (o : Old w w') : Recs c w' v t := by
  obtain ⟨a, cap, b, off, e, h1, h2, h3, h4⟩ := h
  exact ⟨a, cap, b, off, e, h1, h2, h3, fun j u hu W hW => h4 j u hu W (o.trans hW)⟩
theorem Recs.nil (c : Enc α) (w : World) : Recs c w (.slice none 0 0) [] := ⟨none, 0, 0, 0, rfl, by simp, by simp, by simp, by simp [Enc.all]⟩
theorem Recs.mk {w : World} {b off cap : Nat} {t : List α} (h1 : t.length ≤ cap) (h2 : cap ≤ 9223372036854775807) (h : ∀ j u, (c.all t)[j]? = some u → w.cell? ⟨b, off + j, none⟩ = some u) :
    Recs c w (.slice (some ⟨b, off, none⟩) t.length cap) t := ⟨_, cap, b, off, rfl, h1, h2, fun _ => rfl, fun j u hu => later (h j u hu)⟩
theorem Recs.form {w : World} {v : Value} {t : List α} (h : Recs c w v t) : ∃ a cap, v = .slice a t.length cap ∧ t.length ≤ cap ∧ cap ≤ 9223372036854775807 := by
  obtain ⟨a, cap, b, off, e, h1, h2, _⟩ := h; exact ⟨a, cap, e, h1, h2⟩
theorem Recs.of_row {w : World} {base e : Nat} {v : Value} {t : List α} {n : Nat} (hn : n = t.length) (h : w.ownsRow base e c.k v n (c.all t)) : Recs c w v t := by
  subst hn
  obtain ⟨hl, h⟩ := h
  rcases h with ⟨rfl, h0⟩ | ⟨g, cap, cur, rfl, hb, hg, hnc, hcm, hcs, htake⟩
  · have : t = [] := List.eq_nil_of_length_eq_zero h0
    subst this; exact Recs.nil c w
  · have hown : w.ownsRow base e c.k (.slice (some ⟨g, 0, none⟩) t.length cap) t.length (c.all t) := ⟨hl, .inr ⟨g, cap, cur, rfl, hb, hg, hnc, hcm, hcs, htake⟩⟩
    refine Recs.mk hnc (by simpa [maxLen] using hcm) fun j u hu => ?_
    have hj := (List.getElem?_eq_some_iff.1 hu).1
    rw [Enc.all_length] at hj
    rw [Nat.zero_add, hown.cellAt j hj, hu]
theorem Recs.one (w : World) (E : TypeId) (x : α) : Recs c (w.alloc (.cells (c.enc x).toArray E)) (.slice (some ⟨w.heap.size, 0, none⟩) 1 1) [x] :=
  Recs.mk (t := [x]) (cap := 1) (by simp) (by simp) (fun j u hu => by
    rw [Enc.all_one] at hu
    rw [Nat.zero_add]
    have hj := (List.getElem?_eq_some_iff.1 hu).1
    simp [go_sem]
    simpa using hu)
/-- a row of the call's own -/
def OwnS (c : Enc α) (E : TypeId) (w0 w : World) (v : Value) (t : List α) : Prop := w.ownsRow w0.heap.size E c.k v t.length (c.all t)
section own
variable {E : TypeId} {w0 w w' : World} {v : Value} {t : List α}
theorem OwnS.recs (h : OwnS c E w0 w v t) : Recs c w v t := Recs.of_row rfl h
theorem OwnS.nil (c : Enc α) (E : TypeId) (w0 w : World) : OwnS c E w0 w (.slice none 0 0) [] := World.ownsRow_nil w _ E c.k
theorem OwnS.alloc (h : OwnS c E w0 w v t) (o : Obj) : OwnS c E w0 (w.alloc o) v t := World.ownsRow.alloc h o
theorem OwnS.kept {row : Option Nat} (h : OwnS c E w0 w v t) (hg : w.grownBy w' row) (hne : v.ownBlock = none ∨ v.ownBlock ≠ row) : OwnS c E w0 w' v t := World.ownsRow.kept h hg hne
theorem OwnS.old (h : OwnS c E w0 w v t) (o : Old w w') : OwnS c E w0 w' v t := by
  have hg := Old.grownBy o none
  exact World.ownsRow.kept h hg (by cases hv : v.ownBlock <;> simp)
theorem OwnS.drew (h : OwnS c E w0 w v t) : OwnS c E w0 w.drew v t := h
theorem OwnS.len {a : Option Addr} {n cap : Nat} (h : OwnS c E w0 w (.slice a n cap) t) : n = t.length := by
  obtain ⟨a', cap', e, _⟩ := ownsRow_form h
  simp at e
  exact e.2.1
theorem OwnS.form (h : OwnS c E w0 w v t) : ∃ a cap, v = .slice a t.length cap ∧ t.length ≤ cap ∧ cap ≤ 9223372036854775807 := ownsRow_form h
theorem OwnS.block {a : Option Addr} {n cap : Nat} (h : OwnS c E w0 w (.slice a n cap) t) (hl : 0 < t.length) : ∃ g, a = some ⟨g, 0, none⟩ ∧ w0.heap.size ≤ g ∧ g < w.heap.size := by
  obtain ⟨h1, ⟨h2, h0⟩ | ⟨g, c, cur, e, hb, hg, _⟩⟩ := h
  · omega
  · simp at e
    exact ⟨g, e.1, hb, (Array.getElem?_eq_some_iff.1 hg).1⟩
theorem OwnS.cell {g n cap : Nat} (h : OwnS c E w0 w (.slice (some ⟨g, 0, none⟩) n cap) t) {i j : Nat} {x : α} {u : Value} (hx : t[i]? = some x) (hu : (c.enc x)[j]? = some u) : w.cell? ⟨g, i * c.k + j, none⟩ = some u := by
  obtain rfl := h.len
  have hall := Enc.all_at hx hu
  have hj := (List.getElem?_eq_some_iff.1 hall).1
  rw [Enc.all_length] at hj
  rw [World.ownsRow.cellAt h _ hj, hall]
theorem OwnS.frozen {g n cap : Nat} (h : OwnS c E w0 w (.slice (some ⟨g, 0, none⟩) n cap) t) (j : Nat) : w.frozen? ⟨g, j, none⟩ = false := by
  obtain rfl := h.len
  exact World.ownsRow.frozenAt h j
theorem OwnS.stored {g n cap : Nat} (h : OwnS c E w0 w (.slice (some ⟨g, 0, none⟩) n cap) t) {i j : Nat} {x x' : α} {u : Value} (hx : t[i]? = some x) (hj : j < c.k) (he : c.enc x' = (c.enc x).set j u) :
    OwnS c E w0 (w.setCell ⟨g, i * c.k + j, none⟩ u) (.slice (some ⟨g, 0, none⟩) n cap) (t.set i x') := by
  obtain rfl := h.len
  have := (World.ownsRow.stored h (i * c.k + j) u).1
  rw [Enc.all_set hx hj he] at this
  unfold OwnS
  rw [List.length_set]
  exact this
theorem OwnS.lower {w1 : World} (h : OwnS c E w1 w v t) (hs : w0.heap.size ≤ w1.heap.size) : OwnS c E w0 w v t := by
  obtain ⟨h1, h2⟩ := h
  refine ⟨h1, ?_⟩
  rcases h2 with h2 | ⟨g, cap, cur, e, hb, r⟩
  · exact .inl h2
  · exact .inr ⟨g, cap, cur, e, Nat.le_trans hs hb, r⟩
theorem OwnS.but {a : Option Addr} {n cap g : Nat} (h : OwnS c E w0 w (.slice a n cap) t) (o : OldBut g w w') (hg : ∀ x, a = some x → x.block ≠ g) : OwnS c E w0 w' (.slice a n cap) t := by
  obtain ⟨h1, h2⟩ := h
  refine ⟨h1, ?_⟩
  rcases h2 with h2 | ⟨g', cap', cur, e, hb, hc, r⟩
  · exact .inl h2
  · refine .inr ⟨g', cap', cur, e, hb, ?_, r⟩
    simp at e
    rw [o.block g' (Array.getElem?_eq_some_iff.1 hc).1 (hg _ e.1)]
    exact hc
end own
section
variable {P : Program} {ops : Array Oper} {rest : List Oper} {o : Oper} {a : Act} {Q : Exit → Act → World → Prop}
theorem Recs.cells {w : World} {b off : Nat} {t : List α} (h4 : ∀ j u, (c.all t)[j]? = some u → ∀ W, Old w W → W.cell? ⟨b, off + j, none⟩ = some u) {W : World} (hW : Old w W) :
    ∀ j u, (c.all t)[j]? = some u → W.cell? ((⟨b, off, none⟩ : Addr).add j) = some u := fun j u hu => by rw [Addr.add_lit]; exact h4 j u hu W hW
theorem wpList_append_recs {w0 w : World} (hgd : o.guard = none) (s x : Operand) (T : TypeId) (ho : o.op = .call { callee := .builtin .append, args := #[s, x], argTypes := #[T, T] })
    (E : TypeId) (ht : P.underlying T = some (.slice E)) (z : Value) {bytes : Nat} (hinfo : (P.info? E).map (fun i => (i.zero, i.size, i.bytes)) = some (some z, c.k, bytes)) (hzs : z.cells.size = c.k) (hsz : 0 < c.k)
    (v : Value) (l u : List α) (hs : a.eval s = v) (hown : OwnS c E w0 w v l) (vx : Value) (hx : a.eval x = vx) (hu : Recs c w vx u)
    (h63 : l.length + u.length ≤ 9223372036854775807) (hbytes : (l.length + u.length) * bytes ≤ 140737488355328) (hold : Old w0 w)
    (h : ∀ v' w', OwnS c E w0 w' v' (l ++ u) → Old w0 w' → w.grownBy w' v.ownBlock → wpList P ops Q rest (a.put o.dst v') w') : wpList P ops Q (o :: rest) a w := by
  obtain ⟨ao, cap, b, off, rfl, hn1, hn2, ha, ht0⟩ := hu
  exact wpList_append_any hgd s x T ho E ht z c.k bytes hinfo hzs hsz v l.length (c.all l) hs hown ao u.length cap (c.all u) hx (Enc.all_length u) ⟨b, off, none⟩ ha (Recs.cells ht0 (Old.refl w)) (Enc.cells_one u)
    h63 hbytes hold (fun v' w' k1 k2 k3 => h v' w' (by unfold OwnS; rw [Enc.all_append, List.length_append]; exact k1) k2 k3)
/-- append of one record that lies in a block of its own; a lower base -/
theorem wpList_append_rec1 {w0 w : World} (hgd : o.guard = none) (s x : Operand) (T : TypeId) (ho : o.op = .call { callee := .builtin .append, args := #[s, x], argTypes := #[T, T] })
    (E : TypeId) (ht : P.underlying T = some (.slice E)) (z : Value) {bytes : Nat} (hinfo : (P.info? E).map (fun i => (i.zero, i.size, i.bytes)) = some (some z, c.k, bytes)) (hzs : z.cells.size = c.k) (hsz : 0 < c.k)
    (v : Value) (l : List α) (hs : a.eval s = v) (hown : OwnS c E w0 w v l) (b : Nat) (y : α) (hx : a.eval x = .slice (some ⟨b, 0, none⟩) 1 1) (hc : ∀ j u, (c.enc y)[j]? = some u → w.cell? ⟨b, j, none⟩ = some u)
    (h63 : l.length + 1 ≤ 9223372036854775807) (hbytes : (l.length + 1) * bytes ≤ 140737488355328) (hold : w0.heap.size ≤ w.heap.size)
    (h : ∀ v' w', OwnS c E w0 w' v' (l ++ [y]) → w.grownBy w' v.ownBlock → wpList P ops Q rest (a.put o.dst v') w') : wpList P ops Q (o :: rest) a w := by
  obtain ⟨i, hi, hz0, hz1, hz2⟩ := info_parts hinfo
  refine wpList_append_own w hgd s x T ho w0.heap.size E i z c.k bytes ht hi hz0 hz1 hz2 hzs hsz v l.length (c.all l) hs hown ⟨b, 0, none⟩ 1 1 (c.enc y) hx (by rw [c.len, Nat.one_mul]) ?_ (c.one y) (by simpa [maxLen] using h63) hbytes hold ?_
  · intro j u hu
    rw [Addr.add_lit, Nat.zero_add]
    exact hc j u hu
  · intro v' w' a1 a2 _
    refine h v' w' ?_ a2
    unfold OwnS
    rw [Enc.all_append, Enc.all_one, List.length_append]
    exact a1
end
end Go.Proofs.YtpifkinlaicliaaGreatDoor
/-
  SLICES OF RECORDS THAT STAND FOR SOMETHING, over no program: each record's further meaning is said by a relation; rows that lie apart from some blocks.
-/

namespace Go.Proofs.YtpifkinlaicliaaGreatDoor
open Go.RowKit

/-- a slice value's three parts -/
abbrev Sl := Option Addr × Nat × Nat
def Sl.v (x : Sl) : Value := .slice x.1 x.2.1 x.2.2
def slE : Enc Sl := ⟨1, fun x => [x.v], fun _ => rfl, fun x u hu => by
  simp only [List.mem_cons, List.not_mem_nil, or_false] at hu
  subst hu; rfl⟩
section
variable {α β γ : Type}
/-- two lists stand for one another -/
def Both (R : β → α → Prop) (t : List β) (l : List α) : Prop := t.length = l.length ∧ ∀ (i : Nat) (x : β) (y : α), t[i]? = some x → l[i]? = some y → R x y
theorem Both.nil {R : β → α → Prop} : Both R [] [] := ⟨rfl, fun i x y h => by simp at h⟩
theorem Both.mono {R R' : β → α → Prop} {t : List β} {l : List α} (h : Both R t l) (hR : ∀ x y, R x y → R' x y) : Both R' t l := ⟨h.1, fun i x y hx hy => hR x y (h.2 i x y hx hy)⟩
theorem Both.snoc {R : β → α → Prop} {t : List β} {l : List α} (h : Both R t l) {x : β} {y : α} (hR : R x y) : Both R (t ++ [x]) (l ++ [y]) := by
  refine ⟨by simp [h.1], fun i a b ha hb => ?_⟩
  by_cases hi : i < t.length
  · rw [List.getElem?_append_left hi] at ha
    rw [List.getElem?_append_left (by rw [← h.1]; exact hi)] at hb
    exact h.2 i a b ha hb
  · rw [List.getElem?_append_right (by omega)] at ha
    rw [List.getElem?_append_right (by rw [← h.1]; omega), ← h.1] at hb
    have hz : i - t.length = 0 := by
      have := (List.getElem?_eq_some_iff.1 ha).1
      simp at this; omega
    rw [hz] at ha hb
    obtain rfl := Option.some.inj ha
    obtain rfl := Option.some.inj hb
    exact hR
theorem Both.at {R : β → α → Prop} {t : List β} {l : List α} (h : Both R t l) {i : Nat} {y : α} (hy : l[i]? = some y) : ∃ x, t[i]? = some x ∧ R x y := by
  have hi : i < t.length := by rw [h.1]; exact (List.getElem?_eq_some_iff.1 hy).1
  exact ⟨_, List.getElem?_eq_getElem hi, h.2 i _ y (List.getElem?_eq_getElem hi) hy⟩
theorem Both.unsnoc {R : β → α → Prop} {t : List β} {l : List α} {x : β} {y : α} (h : Both R (t ++ [x]) (l ++ [y])) : Both R t l ∧ R x y := by
  have hl : t.length = l.length := by have := h.1; simp at this; exact this
  refine ⟨⟨hl, fun i a b ha hb => ?_⟩, ?_⟩
  · exact h.2 i a b (by rw [List.getElem?_append_left (List.getElem?_eq_some_iff.1 ha).1]; exact ha) (by rw [List.getElem?_append_left (List.getElem?_eq_some_iff.1 hb).1]; exact hb)
  · exact h.2 t.length x y (by simp) (by rw [hl]; simp)
/-- a slice of records, each standing for something -/
def Seqs (c : Enc β) (R : World → β → α → Prop) (w : World) (v : Value) (l : List α) : Prop := ∃ t : List β, Recs c w v t ∧ Both (R w) t l
theorem Seqs.old {c : Enc β} {R : World → β → α → Prop} (hR : ∀ w W x y, R w x y → Old w W → R W x y) {w W : World} {v : Value} {l : List α} (h : Seqs c R w v l) (o : Old w W) : Seqs c R W v l := by
  obtain ⟨t, h1, h2⟩ := h
  exact ⟨t, h1.old o, h2.mono fun x y h => hR _ _ _ _ h o⟩
theorem Seqs.nil (c : Enc β) (R : World → β → α → Prop) (w : World) : Seqs c R w (.slice none 0 0) [] := ⟨[], Recs.nil c w, Both.nil⟩
theorem Seqs.form {c : Enc β} {R : World → β → α → Prop} {w : World} {v : Value} {l : List α} (h : Seqs c R w v l) : ∃ a cap, v = .slice a l.length cap ∧ l.length ≤ cap ∧ cap ≤ 9223372036854775807 := by
  obtain ⟨t, h1, h2, _⟩ := h
  have := h1.form
  rwa [h2] at this
/-- what lies at the i-th -/
theorem Seqs.at {c : Enc β} {R : World → β → α → Prop} {w : World} {a : Option Addr} {n cap : Nat} {l : List α} (h : Seqs c R w (.slice a n cap) l) :
    ∃ b off, (0 < l.length → a = some ⟨b, off, none⟩) ∧ ∀ (i : Nat) (y : α), l[i]? = some y → ∃ x, R w x y ∧ ∀ (j : Nat) (u : Value), (c.enc x)[j]? = some u → ∀ W, Old w W → W.cell? ⟨b, off + (i * c.k + j), none⟩ = some u := by
  obtain ⟨t, ⟨a', cap', b, off, e, h1, h2, h3, h4⟩, hb⟩ := h
  obtain ⟨rfl, rfl, rfl⟩ := Value.slice.inj e
  refine ⟨b, off, fun hp => h3 (by rw [hb.1]; exact hp), fun i y hy => ?_⟩
  obtain ⟨x, hx, hR⟩ := hb.at hy
  exact ⟨x, hR, fun j u hu => h4 _ u (Enc.all_at hx hu)⟩
/-- all blocks but those of F lie as they lay -/
def KeptF (F : Nat → Prop) (w W : World) : Prop := ∀ b, b < w.heap.size → ¬ F b → W.heap[b]? = w.heap[b]?
/-- Recs whose row lies in no block of which F holds -/
def RecsF (c : Enc α) (F : Nat → Prop) (w : World) (v : Value) (t : List α) : Prop :=
  ∃ a cap b off, v = .slice a t.length cap ∧ t.length ≤ cap ∧ cap ≤ 9223372036854775807 ∧ (0 < t.length → a = some ⟨b, off, none⟩) ∧ (0 < t.length → ¬ F b) ∧ ∀ j u, (c.all t)[j]? = some u → w.cell? ⟨b, off + j, none⟩ = some u
theorem RecsF.recs {c : Enc α} {F : Nat → Prop} {w : World} {v : Value} {t : List α} (h : RecsF c F w v t) : Recs c w v t := by
  obtain ⟨a, cap, b, off, e, h1, h2, h3, _, h4⟩ := h
  exact ⟨a, cap, b, off, e, h1, h2, h3, fun j u hu => later (h4 j u hu)⟩
theorem RecsF.kept {c : Enc α} {F F' : Nat → Prop} {w W : World} {v : Value} {t : List α} (h : RecsF c F w v t) (hk : KeptF F w W) (hF : ∀ b, b < w.heap.size → ¬ F b → ¬ F' b) (h0 : 0 < c.k) : RecsF c F' W v t := by
  obtain ⟨a, cap, b, off, e, h1, h2, h3, hf, h4⟩ := h
  have hb : 0 < t.length → b < w.heap.size := fun hp => by
    have hl : 0 < (c.all t).length := by rw [Enc.all_length]; exact Nat.mul_pos hp h0
    exact World.block_lt_of_cell? w _ (h4 0 _ (List.getElem?_eq_getElem hl))
  refine ⟨a, cap, b, off, e, h1, h2, h3, fun hp => hF b (hb hp) (hf hp), fun j u hu => ?_⟩
  have hp : 0 < t.length := by
    rcases Nat.eq_zero_or_pos t.length with h | h
    · rw [List.eq_nil_of_length_eq_zero h] at hu; simp [Enc.all] at hu
    · exact h
  rw [World.cell?_of_block (w := w) (hk b (hb hp) (hf hp))]
  exact h4 j u hu
theorem RecsF.of_own {c : Enc α} {F : Nat → Prop} {E : TypeId} {w0 w : World} {v : Value} {t : List α} (h : OwnS c E w0 w v t) (hF : ∀ b, v.ownBlock = some b → w0.heap.size ≤ b → b < w.heap.size → ¬ F b) : RecsF c F w v t := by
  have hr := h.recs
  obtain ⟨a, cap, b, off, e, h1, h2, h3, h4⟩ := hr
  subst e
  refine ⟨a, cap, b, off, rfl, h1, h2, h3, fun hp => ?_, fun j u hu => h4 j u hu w (Old.refl w)⟩
  obtain ⟨g, e, hg, hlt⟩ := h.block hp
  rw [h3 hp] at e
  obtain ⟨rfl, _, _⟩ := Addr.mk.inj (Option.some.inj e)
  exact hF _ (by rw [h3 hp]; rfl) hg hlt
theorem RecsF.nil (c : Enc α) (F : Nat → Prop) (w : World) : RecsF c F w (.slice none 0 0) [] := ⟨none, 0, 0, 0, rfl, by simp, by simp, by simp, by simp, by simp [Enc.all]⟩
/-- a row that a literal has just laid -/
theorem RecsF.lit {c : Enc α} {F : Nat → Prop} {w : World} {b : Nat} {t : List α} {v : Value} (hv : v = .slice (some ⟨b, 0, none⟩) t.length t.length) (hl : t.length ≤ 9223372036854775807) (hF : ¬ F b) (h : ∀ j u, (c.all t)[j]? = some u → w.cell? ⟨b, j, none⟩ = some u) : RecsF c F w v t :=
  ⟨_, _, b, 0, hv, Nat.le_refl _, hl, fun _ => rfl, fun _ => hF, fun j u hu => by rw [Nat.zero_add]; exact h j u hu⟩
theorem KeptF.old {F : Nat → Prop} {w W : World} (o : Old w W) : KeptF F w W := fun b hb _ => o.block b hb
theorem KeptF.grown {F : Nat → Prop} {w W : World} {row : Option Nat} (h : w.grownBy W row) (hF : ∀ b, row = some b → F b) : KeptF F w W := fun b hb hf => h.block b hb fun e => hf (hF b e.symm)
theorem KeptF.trans {F : Nat → Prop} {x y z : World} (h : KeptF F x y) (k : KeptF F y z) (hs : x.heap.size ≤ y.heap.size) : KeptF F x z := fun b hb hf => (k b (Nat.lt_of_lt_of_le hb hs) hf).trans (h b hb hf)
theorem KeptF.setCell {F : Nat → Prop} (w : World) {g o : Nat} (v : Value) (hg : F g) : KeptF F w (w.setCell ⟨g, o, none⟩ v) := fun b _ hf => Below.heap_setCell _ _ _ b (fun e => hf (by rw [e]; exact hg))
theorem KeptF.mono {F F' : Nat → Prop} {w W : World} (h : KeptF F w W) (hF : ∀ b, F b → F' b) : KeptF F' w W := fun b hb hf => h b hb fun e => hf (hF b e)
end
end Go.Proofs.YtpifkinlaicliaaGreatDoor
