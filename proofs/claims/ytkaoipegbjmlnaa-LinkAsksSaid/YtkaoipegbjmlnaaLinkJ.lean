/-
  LINK, PLAIN, J: a way as it is told: each step is a reference, no topic twice, none is shorter.
-/
import Derived.Test.YtkaoipegbjmlnaaLinkI
namespace Go.Proofs.Ytkaoipegbjmlnaa
open Go.RowKit

theorem Walk.cons {E : Int → Int → Bool} {a b : Int} (e : E a b = true) : ∀ {n : Nat} {c : Int}, Walk E n b c → Walk E (n + 1) a c
  | 0, _, .nil _ => (Walk.nil a).snoc e
  | _ + 1, _, .snoc h e2 => (h.cons e).snoc e2
theorem Walk.turn {E : Int → Int → Bool} : ∀ {n : Nat} {a b : Int}, Walk (fun x y => E y x) n a b → Walk E n b a
  | 0, _, _, .nil a => Walk.nil a
  | _ + 1, _, _, .snoc h e => h.turn.cons e
theorem next_of {E : Int → Int → Bool} {n : Nat} {D : Int → Option Nat} {t : Int} {d : Nat} (h : ∃ y, y ∈ below n (E t) ∧ D y = some d) : nextOf E n D t d ∈ below n (E t) ∧ D (nextOf E n D t d) = some d := by
  obtain ⟨y, hy, hd⟩ := h
  unfold nextOf
  obtain ⟨z, hz⟩ : ∃ z, (below n (E t)).find? (fun y => decide (D y = some d)) = some z := by
    cases hf : (below n (E t)).find? (fun y => decide (D y = some d)) with
    | some z => exact ⟨z, rfl⟩
    | none =>
      have := List.find?_eq_none.1 hf y hy
      simp [hd] at this
  rw [hz]
  have h1 := List.mem_of_find?_eq_some hz
  have h2 := List.find?_some hz
  exact ⟨h1, by simpa using h2⟩
theorem wayL_len (E : Int → Int → Bool) (n : Nat) (D : Int → Option Nat) : ∀ (d : Nat) (t : Int), (wayL E n D d t).length = d
  | 0, _ => rfl
  | d + 1, t => by unfold wayL; rw [List.length_cons, wayL_len]
theorem ix_zero (x : Int) (l : List Int) : ix (x :: l) 0 = x := rfl
theorem ix_succ (x : Int) (l : List Int) (k : Nat) : ix (x :: l) (k + 1) = ix l k := rfl
/-- the way: how far each of its topics is, and that each refers to the next -/
theorem way_at {E : Int → Int → Bool} {n : Nat} {D : Int → Option Nat} {dst : Int} (hE : ∀ a b, E a b = true → (0 ≤ a ∧ a < n) ∧ 0 ≤ b ∧ b < n) (hD : ∀ x d, D x = some d ↔ DistIs (fun a b => E b a) dst x d) :
    ∀ (d : Nat) (t : Int), D t = some d → ∀ k, k ≤ d → D (ix (t :: wayL E n D d t) k) = some (d - k) ∧ (k < d → E (ix (t :: wayL E n D d t) k) (ix (t :: wayL E n D d t) (k + 1)) = true)
  | 0, t, ht, k, hk => by
    obtain rfl : k = 0 := by omega
    rw [ix_zero]
    exact ⟨ht, fun h => by omega⟩
  | d + 1, t, ht, k, hk => by
    obtain ⟨h1, h2⟩ := next_of (next_is hE hD ht)
    unfold wayL
    cases k with
    | zero =>
      rw [ix_zero, ix_succ, ix_zero]
      exact ⟨by rw [ht]; rfl, fun _ => (below_mem.1 h1).2.2⟩
    | succ k =>
      rw [ix_succ, ix_succ]
      obtain ⟨k1, k2⟩ := way_at hE hD d _ h2 k (by omega)
      exact ⟨by rw [k1]; congr 1; omega, fun h => k2 (by omega)⟩
/-- all that LinkWays asks of a way -/
structure WayOk (E : Int → Int → Bool) (n : Nat) (s t : Int) (d : Nat) (W : List Int) : Prop where
  len : W.length = d + 1
  first : ix W 0 = s
  last : ix W d = t
  apart : ∀ k, k ≤ d → ix W k ∉ W.take k
  steps : ∀ k, k < d → E (ix W k) (ix W (k + 1)) = true
  short : ∀ m, Walk E m s t → d ≤ m
  walk : Walk E d s t
theorem way_ok {E : Int → Int → Bool} {n : Nat} {D : Int → Option Nat} {s t : Int} {d : Nat} (hE : ∀ a b, E a b = true → (0 ≤ a ∧ a < n) ∧ 0 ≤ b ∧ b < n) (hD : ∀ x d, D x = some d ↔ DistIs (fun a b => E b a) t x d) (hs : D s = some d) :
    WayOk E n s t d (s :: wayL E n D d s) where
  len := by rw [List.length_cons, wayL_len]
  first := rfl
  last := by
    have h := (way_at hE hD d s hs d (Nat.le_refl _)).1
    rw [Nat.sub_self] at h
    exact ((hD _ 0).1 h).zero
  apart k hk hm := by
    obtain ⟨i, hi, e⟩ := List.mem_iff_getElem.1 hm
    rw [List.length_take] at hi
    have e2 : ix (s :: wayL E n D d s) i = ix (s :: wayL E n D d s) k := by
      rw [← e, List.getElem_take]
      unfold ix
      rw [List.getD_eq_getElem?_getD, List.getElem?_eq_getElem (by omega)]; rfl
    have h1 := (way_at hE hD d s hs i (by omega)).1
    have h2 := (way_at hE hD d s hs k hk).1
    rw [e2, h2] at h1
    have := Option.some.inj h1
    omega
  steps k hk := (way_at hE hD d s hs k (by omega)).2 hk
  short m h := ((hD s d).1 hs).2 m (Walk.turn (E := fun a b => E b a) h)
  walk := ((hD s d).1 hs).1.turn
theorem ix_mem {l : List Int} {k : Nat} (h : k < l.length) : ix l k ∈ l := by
  unfold ix
  rw [List.getD_eq_getElem?_getD, List.getElem?_eq_getElem h]
  exact List.getElem_mem h
theorem Ints.take {w : World} {a : Option Addr} {cap : Nat} {l : List Int} {m : Nat} (h : Ints w (.slice a m cap) l) {k : Nat} (hk : k ≤ l.length) : Ints w (.slice a k cap) (l.take k) := by
  obtain ⟨a', c', b, off, e, h1, h2, h3, h4⟩ := h
  injection e with e1 e2 e3
  subst e1; subst e3
  have hl : (l.take k).length = k := by rw [List.length_take]; omega
  refine ⟨a, cap, b, off, by rw [hl], by omega, h2, fun h => h3 (by omega), fun i hi W hW => ?_⟩
  rw [hl] at hi
  have := h4 i (by omega) W hW
  rw [this]
  unfold ix
  rw [List.getD_eq_getElem?_getD, List.getD_eq_getElem?_getD, List.getElem?_take, if_pos hi]
theorem asks_less {n : Nat} {tp s t : Int} (h : asksE n tp [s] ≠ 0) : asksE n tp [s, t] ≠ 0 := fun e => h (by
  obtain ⟨h1, h2, h3, h4⟩ := asks_ok e
  have := h4 s (by simp)
  unfold asksE
  rw [if_neg (by omega), if_neg (by omega), if_neg]
  simp; omega)
theorem asks_range {n : Nat} {tp s t : Int} (h : asksE n tp [s] = 0) (k : asksE n tp [s, t] ≠ 0) : asksE n tp [s, t] = 1 := by
  obtain ⟨h1, h2, h3, h4⟩ := asks_ok h
  unfold asksE at k ⊢
  rw [if_neg (by omega), if_neg (by omega)] at k ⊢
  split at k
  · rw [if_pos (by assumption)]
  · exact absurd rfl k
/-- a number among m, as Go reckons it -/
theorem rem_in (x : Int) (m : Int) (hm : 0 < m) : 0 ≤ (x.tmod m + m).tmod m ∧ (x.tmod m + m).tmod m < m ∧ -m < x.tmod m ∧ x.tmod m < m := by
  have h1 := Int.lt_tmod_of_pos x hm
  have h2 := Int.tmod_lt_of_pos x hm
  have h3 : 0 ≤ x.tmod m + m := by omega
  exact ⟨Int.tmod_nonneg m h3, Int.tmod_lt_of_pos _ hm, by omega, h2⟩
end Go.Proofs.Ytkaoipegbjmlnaa
