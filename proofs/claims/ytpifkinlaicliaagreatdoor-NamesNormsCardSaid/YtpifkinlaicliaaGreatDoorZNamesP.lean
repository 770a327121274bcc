/-
  A TABLE OF NAMES, in plain words: what New says, what is found, the order, what begins so, what is near.
-/
import Derived.Test.YtpifkinlaicliaaGreatDoorZLev
import Derived.Test.YtpifkinlaicliaaGreatDoorZNorm
import Derived.Test.YtpifkinlaicliaaGreatDoorZTextOrder
namespace Go.Proofs.YtpifkinlaicliaaGreatDoor
open Go.RowKit

abbrev noS : ByteArray := ⟨#[]⟩
/-! ### finding -/
theorem nodup_inj {α : Type} {l : List α} (h : l.Nodup) {i j : Nat} (hi : i < l.length) (hj : j < l.length) (e : l[i] = l[j]) : i = j := by
  rcases Nat.lt_trichotomy i j with c | c | c
  · exact absurd e (List.pairwise_iff_getElem.1 h i j hi hj c)
  · exact c
  · exact absurd e.symm (List.pairwise_iff_getElem.1 h j i hj hi c)
def findN (l : List ByteArray) (q : ByteArray) : Option Nat := l.findIdx? fun x => decide (x = q)
theorem findN_none {l : List ByteArray} {q : ByteArray} : findN l q = none ↔ ¬ q ∈ l := by
  unfold findN
  rw [List.findIdx?_eq_none_iff]
  constructor
  · intro h hq; have := h q hq; simp at this
  · intro h x hx; rw [decide_eq_false_iff_not]; intro e; exact h (e ▸ hx)
theorem findN_some {l : List ByteArray} {q : ByteArray} {k : Nat} (h : findN l q = some k) : k < l.length ∧ l.getD k noS = q := by
  unfold findN at h
  rw [List.findIdx?_eq_some_iff_getElem] at h
  obtain ⟨hk, hp, _⟩ := h
  exact ⟨hk, by simpa [List.getD, hk] using hp⟩
theorem findN_snoc {l : List ByteArray} {n : ByteArray} (h : ¬ n ∈ l) : findN (l ++ [n]) = fun q => if q = n then some l.length else findN l q := by
  funext q
  unfold findN
  rw [List.findIdx?_append]
  by_cases e : q = n
  · subst e
    have h1 : l.findIdx? (fun x => decide (x = q)) = none := findN_none.2 h
    rw [h1, if_pos rfl]
    simp [List.findIdx?_cons]
  · rw [if_neg e]
    cases l.findIdx? (fun x => decide (x = q)) with
    | some k => rfl
    | none =>
      have : ¬ n = q := fun h => e h.symm
      simp [List.findIdx?_cons, this]
theorem findN_at {l : List ByteArray} (hn : l.Nodup) {k : Nat} (hk : k < l.length) : findN l (l.getD k noS) = some k := by
  have e : l.getD k noS = l[k] := by simp [List.getD, hk]
  cases h : findN l (l.getD k noS) with
  | none => exact absurd (by rw [e]; exact List.getElem_mem hk) (findN_none.1 h)
  | some j =>
    obtain ⟨hj, h2⟩ := findN_some h
    have e2 : l.getD j noS = l[j] := by simp [List.getD, hj]
    rw [e, e2] at h2
    rw [nodup_inj hn hj hk h2]
/-- a text's Norm -/
def nrm (s : ByteArray) : ByteArray := (normR s).1
/-- New from place i on: the place, the error's number -/
def newAt : List ByteArray → List ByteArray → Nat → Nat × Int
  | [], _, _ => (0, 0)
  | s :: t, seen, i => if (normR s).2 = 0 then (if findN seen (nrm s) = none then newAt t (seen ++ [nrm s]) (i + 1) else (i, 71)) else (i, (normR s).2)
def newR (l : List ByteArray) : Nat × Int := if 1000 < l.length then (0, 2) else newAt l [] 0
theorem newAt_err : ∀ (t seen : List ByteArray) (i : Nat), (newAt t seen i).2 = 0 ∨ (newAt t seen i).2 = 2 ∨ (newAt t seen i).2 = 70 ∨ (newAt t seen i).2 = 71
  | [], _, _ => .inl rfl
  | s :: t, seen, i => by
    unfold newAt
    have h := normR_err s
    split
    · split
      · exact newAt_err t _ _
      · exact .inr (.inr (.inr rfl))
    · rcases h with h | h | h
      · exact .inl h
      · exact .inr (.inl h)
      · exact .inr (.inr (.inl h))
theorem newR_err (l : List ByteArray) : (newR l).2 = 0 ∨ (newR l).2 = 2 ∨ (newR l).2 = 70 ∨ (newR l).2 = 71 := by
  unfold newR
  split
  · exact .inr (.inl rfl)
  · exact newAt_err _ _ _
theorem newAt_place : ∀ (t seen : List ByteArray) (i : Nat), (newAt t seen i).1 ≤ i + t.length
  | [], _, _ => by simp [newAt]
  | s :: t, seen, i => by
    unfold newAt
    split
    · split
      · have := newAt_place t (seen ++ [nrm s]) (i + 1); rw [List.length_cons]; omega
      · simp
    · simp
theorem newR_place (l : List ByteArray) : (newR l).1 ≤ 1000 := by
  unfold newR
  split
  · exact Nat.zero_le _
  · have := newAt_place l [] 0; omega
theorem newAt_ok : ∀ {t seen : List ByteArray} {i : Nat}, (newAt t seen i).2 = 0 → seen.Nodup → (∀ s ∈ t, (normR s).2 = 0) ∧ (seen ++ t.map nrm).Nodup
  | [], _, _, _, hs => ⟨by simp, by simpa using hs⟩
  | s :: t, seen, i, h, hs => by
    unfold newAt at h
    by_cases h1 : (normR s).2 = 0
    · rw [if_pos h1] at h
      by_cases h2 : nrm s ∈ seen
      · rw [if_neg (fun e => findN_none.1 e h2)] at h; simp at h
      · rw [if_pos (findN_none.2 h2)] at h
        have := newAt_ok h (by rw [List.nodup_append]; exact ⟨hs, by simp, fun a ha b hb => by rw [List.mem_singleton] at hb; subst hb; exact fun e => h2 (e ▸ ha)⟩)
        refine ⟨fun x hx => ?_, by simpa using this.2⟩
        rcases List.mem_cons.1 hx with rfl | hx
        · exact h1
        · exact this.1 x hx
    · rw [if_neg h1] at h; exact absurd h h1
structure Named (l : List ByteArray) : Prop where
  len : l.length ≤ 1000
  ok : ∀ s ∈ l, (normR s).2 = 0
  nodup : (l.map nrm).Nodup
theorem named_of {l : List ByteArray} (h : (newR l).2 = 0) : Named l := by
  unfold newR at h
  by_cases h1 : 1000 < l.length
  · rw [if_pos h1] at h; simp at h
  · rw [if_neg h1] at h
    have := newAt_ok h List.nodup_nil
    exact ⟨by omega, this.1, by simpa using this.2⟩
theorem newAt_zero : ∀ {t seen : List ByteArray} {i : Nat}, (newAt t seen i).2 = 0 → (newAt t seen i).1 = 0
  | [], _, _, _ => rfl
  | s :: t, seen, i, h => by
    unfold newAt at h ⊢
    by_cases h1 : (normR s).2 = 0
    · rw [if_pos h1] at h ⊢
      by_cases h2 : nrm s ∈ seen
      · rw [if_neg (fun e => findN_none.1 e h2)] at h; simp at h
      · rw [if_pos (findN_none.2 h2)] at h ⊢; exact newAt_zero h
    · rw [if_neg h1] at h; exact absurd h h1
theorem newR_zero {l : List ByteArray} (h : (newR l).2 = 0) : newR l = (0, 0) := by
  have h1 : (newR l).1 = 0 := by
    unfold newR at h ⊢
    by_cases h1 : 1000 < l.length
    · rw [if_pos h1]
    · rw [if_neg h1] at h ⊢; exact newAt_zero h
  exact Prod.ext h1 h
theorem newAt_bad {s : ByteArray} {t seen : List ByteArray} {i : Nat} (h : ¬ (normR s).2 = 0) : newAt (s :: t) seen i = (i, (normR s).2) := by rw [newAt, if_neg h]
theorem newAt_twice {s : ByteArray} {t seen : List ByteArray} {i : Nat} (h : (normR s).2 = 0) (h2 : nrm s ∈ seen) : newAt (s :: t) seen i = (i, 71) := by rw [newAt, if_pos h, if_neg (fun e => findN_none.1 e h2)]
theorem newAt_on {s : ByteArray} {t seen : List ByteArray} {i : Nat} (h : (normR s).2 = 0) (h2 : ¬ nrm s ∈ seen) : newAt (s :: t) seen i = newAt t (seen ++ [nrm s]) (i + 1) := by rw [newAt, if_pos h, if_pos (findN_none.2 h2)]

def findR (l : List ByteArray) (s : ByteArray) : Option Nat := if (normR s).2 = 0 then findN (l.map nrm) (nrm s) else none

/-! ### in order -/
def nmAt (l : List ByteArray) (i : Nat) : ByteArray := l.getD i noS
def cN (l : List ByteArray) (i j : Nat) : Int := compareT (nmAt l i) (nmAt l j)
theorem cN_ord (l : List ByteArray) : OrdC (cN l) := ⟨fun _ _ => compareT_anti _ _, fun _ _ _ h1 h2 => compareT_trans h1 h2⟩
def sortedL (l : List ByteArray) : List Nat := sortTo (cN l) l.length
theorem Named.inj {l : List ByteArray} (h : Named l) : ∀ i j, i < l.length → j < l.length → cN l i j = 0 → i = j := by
  intro i j hi hj he
  have e := compareT_zero.1 he
  have e1 : nmAt l i = l[i] := by simp [nmAt, List.getD, hi]
  have e2 : nmAt l j = l[j] := by simp [nmAt, List.getD, hj]
  rw [e1, e2] at e
  have h1 : (l.map nrm)[i]'(by simpa using hi) = (l.map nrm)[j]'(by simpa using hj) := by rw [List.getElem_map, List.getElem_map, e]
  exact nodup_inj h.nodup (by simpa using hi) (by simpa using hj) h1
theorem Named.at {l : List ByteArray} (h : Named l) {i : Nat} (hi : i < l.length) : (normR (nmAt l i)).2 = 0 ∧ (nmAt l i).size ≤ 64 ∧ (nrm (nmAt l i)).size ≤ 320 := by
  have e1 : nmAt l i = l[i] := by simp [nmAt, List.getD, hi]
  have h1 := h.ok _ (List.getElem_mem hi)
  rw [e1]
  exact ⟨h1, (normR_ok h1).2.2.1, normR_size _⟩
theorem sortedL_length (l : List ByteArray) : (sortedL l).length = l.length := sortTo_length _
theorem sortedL_lt {l : List ByteArray} {i : Nat} (h : i ∈ sortedL l) : i < l.length := sortTo_mem.1 h

/-! ### beginning so; near -/
def begins (s p : ByteArray) : Bool := Lib.hasPrefix s.data.toList p.data.toList
def prefixL (l : List ByteArray) (s : ByteArray) : List Nat :=
  if (plainAt s.data.toList 0).2 = false then [] else (sortedL l).filter fun i => begins (nrm (nmAt l i)) (foldS s)
def apartS (a b : ByteArray) : Nat := levL (runesI a) (runesI b)
def nearL (l : List ByteArray) (s : ByteArray) : List Nat :=
  if (normR s).2 = 0 then (nearF (fun i => apartS (nrm s) (nrm (nmAt l i))) (sortedL l)).2 else []
theorem prefixL_length (l : List ByteArray) (s : ByteArray) : (prefixL l s).length ≤ l.length := by
  unfold prefixL
  split
  · exact Nat.zero_le _
  · exact Nat.le_trans (List.length_filter_le _ _) (by rw [sortedL_length]; exact Nat.le_refl _)
theorem nearL_length (l : List ByteArray) (s : ByteArray) : (nearL l s).length ≤ l.length := by
  unfold nearL
  split
  · rw [nearF_eq]; exact Nat.le_trans (List.length_filter_le _ _) (by rw [sortedL_length]; exact Nat.le_refl _)
  · exact Nat.zero_le _
end Go.Proofs.YtpifkinlaicliaaGreatDoor
