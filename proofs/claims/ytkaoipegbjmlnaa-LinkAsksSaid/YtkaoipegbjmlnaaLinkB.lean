/-
  LINK, PLAIN, 2: ways in a graph, how far one is, the search by a queue.
-/
import Derived.Test.YtkaoipegbjmlnaaLinkP
namespace Go.Proofs.Ytkaoipegbjmlnaa

/-- a way of so many steps -/
inductive Walk (E : Int → Int → Bool) : Nat → Int → Int → Prop
  | nil (a : Int) : Walk E 0 a a
  | snoc {n : Nat} {a b c : Int} (h : Walk E n a b) (e : E b c = true) : Walk E (n + 1) a c
/-- so far is one, and no nearer -/
def DistIs (E : Int → Int → Bool) (a b : Int) (d : Nat) : Prop := Walk E d a b ∧ ∀ n, Walk E n a b → d ≤ n
theorem DistIs.unique {E : Int → Int → Bool} {a b : Int} {d e : Nat} (h : DistIs E a b d) (k : DistIs E a b e) : d = e := by
  have h1 := h.2 e k.1
  have h2 := k.2 d h.1
  omega
theorem DistIs.self (E : Int → Int → Bool) (a : Int) : DistIs E a a 0 := ⟨Walk.nil a, fun _ _ => Nat.zero_le _⟩
/-- on a way from one that is marked to one that is not a step leaves what is marked -/
theorem Walk.leaves {E : Int → Int → Bool} {F : Int → Option Nat} {a : Int} : ∀ {m : Nat} {b : Int}, Walk E m a b → F a ≠ none → F b = none → ∃ j u v, j < m ∧ Walk E j a u ∧ E u v = true ∧ F u ≠ none ∧ F v = none
  | 0, _, .nil _, h1, h2 => absurd h2 h1
  | m + 1, c, .snoc (b := b) h e, h1, h2 => by
    cases hb : F b with
    | none =>
      obtain ⟨j, u, v, hj, k⟩ := h.leaves h1 hb
      exact ⟨j, u, v, by omega, k⟩
    | some d => exact ⟨m, b, c, by omega, h, e, by rw [hb]; simp, h2⟩
/-- the search by a queue: what is marked is marked by how far it is; what has left the queue has all it refers to marked -/
structure Bfs (E : Int → Int → Bool) (src : Int) (F : Int → Option Nat) (q : List Int) : Prop where
  start : F src = some 0
  dist : ∀ x d, F x = some d → DistIs E src x d
  inq : ∀ x ∈ q, F x ≠ none
  nodup : q.Nodup
  sorted : q.Pairwise fun x y => ∀ d e, F x = some d → F y = some e → d ≤ e ∧ e ≤ d + 1
  done : ∀ x, F x ≠ none → x ∉ q → ∀ y, E x y = true → F y ≠ none
theorem Bfs.init (E : Int → Int → Bool) (src : Int) : Bfs E src (fun x => if x = src then some 0 else none) [src] where
  start := if_pos rfl
  dist x d h := by
    try dsimp only at h
    split at h
    · rename_i e
      obtain rfl := Option.some.inj h
      rw [e]; exact DistIs.self E src
    · cases h
  inq x hx := by rw [List.mem_singleton.1 hx]; simp
  nodup := by simp
  sorted := List.pairwise_singleton _ _
  done x hx hq := by
    exfalso
    try dsimp only at hx
    split at hx
    · rename_i e; exact hq (by simp [e])
    · exact hx rfl
/-- one more is marked -/
theorem Bfs.mark {E : Int → Int → Bool} {src t n : Int} {F : Int → Option Nat} {q : List Int} {d : Nat} (h : Bfs E src F (t :: q)) (ht : F t = some d) (he : E t n = true) (hn : F n = none) :
    Bfs E src (fun x => if x = n then some (d + 1) else F x) (t :: (q ++ [n])) := by
  have hns : n ≠ src := fun e => by rw [e, h.start] at hn; cases hn
  have hnt : n ≠ t := fun e => by rw [e, ht] at hn; cases hn
  obtain ⟨hs1, hs2⟩ := List.pairwise_cons.1 h.sorted
  have hdist : DistIs E src n (d + 1) := by
    refine ⟨(h.dist t d ht).1.snoc he, fun m hm => ?_⟩
    rcases Nat.lt_or_ge d m with c | c
    · exact c
    · exfalso
      obtain ⟨j, u, v, hj, hw, hE, hu, hv⟩ := hm.leaves (F := F) (by rw [h.start]; simp) hn
      obtain ⟨du, hdu⟩ : ∃ du, F u = some du := Option.ne_none_iff_exists'.1 hu
      have hle := (h.dist u du hdu).2 j hw
      refine h.done u hu (fun hmem => ?_) v hE hv
      rcases List.mem_cons.1 hmem with e | hmem
      · rw [e, ht] at hdu
        have := Option.some.inj hdu
        omega
      · have := (hs1 u hmem d du ht hdu).1
        omega
  have hold : ∀ x, x ≠ n → (if x = n then some (d + 1) else F x) = F x := fun x hx => if_neg hx
  have hmem : ∀ x ∈ t :: q, x ≠ n := fun x hx e => h.inq x hx (by rw [e]; exact hn)
  refine ⟨by rw [hold src (Ne.symm hns)]; exact h.start, fun x e hx => ?_, fun x hx => ?_, ?_, ?_, fun x hx hq y hy => ?_⟩
  · try dsimp only at hx
    split at hx
    · rename_i e2
      rw [e2, ← Option.some.inj hx]; exact hdist
    · exact h.dist x e hx
  · try dsimp only
    split
    · simp
    · rename_i e2
      refine h.inq x ?_
      rw [← List.cons_append] at hx
      rcases List.mem_append.1 hx with hx | hx
      · exact hx
      · exact absurd (List.mem_singleton.1 hx) e2
  · rw [← List.cons_append]
    refine List.nodup_append.2 ⟨h.nodup, by simp, fun a ha b hb => ?_⟩
    rw [List.mem_singleton.1 hb]
    exact hmem a ha
  · rw [← List.cons_append]
    refine List.pairwise_append.2 ⟨?_, List.pairwise_singleton _ _, fun x hx y hy => ?_⟩
    · refine h.sorted.imp_of_mem fun {x y} hx hy k => ?_
      try dsimp only
      rw [hold x (hmem x hx), hold y (hmem y hy)]
      exact k
    · rw [List.mem_singleton.1 hy]
      try dsimp only
      rw [hold x (hmem x hx), if_pos rfl]
      intro a b ha hb
      obtain rfl := Option.some.inj hb
      rcases List.mem_cons.1 hx with e | hx
      · rw [e, ht] at ha
        have := Option.some.inj ha
        omega
      · have := hs1 x hx d a ht ha
        omega
  · try dsimp only at hx ⊢
    split
    · simp
    · by_cases hxn : x = n
      · exact absurd (by rw [hxn]; simp) hq
      · rw [hold x hxn] at hx
        refine h.done x hx (fun hm => hq ?_) y hy
        rcases List.mem_cons.1 hm with e | hm
        · rw [e]; simp
        · exact List.mem_cons_of_mem _ (List.mem_append_left _ hm)
/-- the first has left the queue: all that it refers to is marked -/
theorem Bfs.pop {E : Int → Int → Bool} {src t : Int} {F : Int → Option Nat} {q : List Int} (h : Bfs E src F (t :: q)) (ha : ∀ y, E t y = true → F y ≠ none) : Bfs E src F q where
  start := h.start
  dist := h.dist
  inq x hx := h.inq x (List.mem_cons_of_mem _ hx)
  nodup := (List.nodup_cons.1 h.nodup).2
  sorted := (List.pairwise_cons.1 h.sorted).2
  done x hx hq y hy := by
    by_cases e : x = t
    · exact ha y (by rw [← e]; exact hy)
    · exact h.done x hx (fun hm => by rcases List.mem_cons.1 hm with k | k; exact e k; exact hq k) y hy
/-- the queue is empty: what is marked is what can be reached -/
theorem Bfs.reach {E : Int → Int → Bool} {src : Int} {F : Int → Option Nat} (h : Bfs E src F []) {x : Int} {n : Nat} (hw : Walk E n src x) : F x ≠ none := fun hx => by
  obtain ⟨j, u, v, _, _, hE, hu, hv⟩ := hw.leaves (F := F) (by rw [h.start]; simp) hx
  exact h.done u hu (by simp) v hE hv
theorem Bfs.says {E : Int → Int → Bool} {src : Int} {F : Int → Option Nat} (h : Bfs E src F []) (x : Int) (d : Nat) : F x = some d ↔ DistIs E src x d := by
  constructor
  · exact h.dist x d
  · intro hd
    obtain ⟨e, he⟩ : ∃ e, F x = some e := Option.ne_none_iff_exists'.1 (h.reach hd.1)
    rw [he, (h.dist x e he).unique hd]
end Go.Proofs.Ytkaoipegbjmlnaa
