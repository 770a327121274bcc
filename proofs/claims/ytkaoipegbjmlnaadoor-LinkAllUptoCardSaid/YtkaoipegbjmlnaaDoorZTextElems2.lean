/-
  TEXT, ELEMENTS: digits, kinds.
-/
import Derived.Test.YtkaoipegbjmlnaaDoorZShelf02
import Derived.Test.YtkaoipegbjmlnaaDoorZTextRefA
import Derived.Laws.Cover4
namespace Go.Proofs.YtkaoipegbjmlnaaDoor
open Go.RowKit
attribute [local go_sem] Old.refl Old.alloc Old.drew Old.setCell OldW.old

def isDg (b : UInt8) : Bool := 48 ≤ b.toNat && b.toNat ≤ 57
/-- how many digits a list begins with -/
def dgN (l : List UInt8) : Nat := (l.takeWhile isDg).length
theorem dgN_eq {l : List UInt8} {n : Nat} (h : ∀ i, i < n → isDg (l.getD i 0) = true) (hn : n ≤ l.length) (h' : n < l.length → isDg (l.getD n 0) = false) : dgN l = n := by
  induction l generalizing n with
  | nil => simp at hn; subst hn; rfl
  | cons x l ih =>
    cases n with
    | zero =>
      have := h' (by simp)
      simp at this
      unfold dgN
      rw [List.takeWhile_cons, this]; rfl
    | succ n =>
      have h0 := h 0 (by omega)
      simp at h0
      have := ih (n := n) (fun i hi => by have := h (i + 1) (by omega); simpa using this) (by simpa using hn) (fun hl => by have := h' (by simpa using hl); simpa using this)
      unfold dgN at this ⊢
      rw [List.takeWhile_cons, h0]
      simp [this]
theorem dgN_le (l : List UInt8) : dgN l ≤ l.length := by
  unfold dgN
  exact (List.takeWhile_prefix _).length_le
/-- what a character of a base is -/
def kindC (r : Int) : Nat := if (97 ≤ r ∧ r ≤ 122) ∨ (192 ≤ r ∧ ¬ r = 215 ∧ ¬ r = 247) then 2 else 0
end Go.Proofs.YtkaoipegbjmlnaaDoor
/-
  TEXT, ELEMENTS: of a text.
-/



namespace Go.Proofs.YtkaoipegbjmlnaaDoor
open Go.RowKit
attribute [local go_sem] Old.refl Old.alloc Old.drew Old.setCell OldW.old

/-- an element: its kind, its character, its digits -/
structure El where
  k : Nat
  r : Nat
  d : ByteArray
def elE : Enc El where
  k := 3
  enc x := [.int .i64 x.k, .int .i32 x.r, .string x.d]
  len _ := rfl
  one x u hu := by
    simp only [List.mem_cons, List.not_mem_nil, or_false] at hu
    rcases hu with rfl | rfl | rfl <;> rfl
/-- the digits from p to q, without noughts ahead -/
def trimN (s : ByteArray) (p q : Nat) : ByteArray := ⟨(Lib.trimLeftB (s.extract p q).data.toList 48).toArray⟩
def elC (x : Chr) : El := ⟨kindC x.r, x.r, ⟨#[]⟩⟩
def baseEls (r : Nat) : List El := (charsAt (baseC r).data.toList 0).map elC
def dgAt (s : ByteArray) (p : Nat) : Nat := dgN (s.data.toList.drop p)
/-- what begins at a place: its elements, and where it ends -/
def elStep (s : ByteArray) (p : Nat) : List El × Nat :=
  if 0 < dgAt s p then ([⟨1, 0, trimN s p (p + dgAt s p)⟩], p + dgAt s p)
  else (if widC (chR s.data.toList p) = 0 then [] else baseEls (chR s.data.toList p), p + chN s.data.toList p)
theorem elStep_lt (s : ByteArray) (p : Nat) : p < (elStep s p).2 := by
  unfold elStep
  split
  · show p < p + dgAt s p; omega
  · have := chN_pos s.data.toList p
    show p < p + chN s.data.toList p; omega
/-- the elements from a place on, behind those that are there -/
def elsGo (s : ByteArray) (p : Nat) (t : List El) : List El := if p < s.size then elsGo s (elStep s p).2 (t ++ (elStep s p).1) else t
termination_by s.size - p
decreasing_by have := elStep_lt s p; omega
def elsS (s : ByteArray) : List El := elsGo s 0 []
theorem elsGo_on {s : ByteArray} {p : Nat} (h : p < s.size) (t : List El) : elsGo s p t = elsGo s (elStep s p).2 (t ++ (elStep s p).1) := by rw [elsGo, if_pos h]
theorem elsGo_end {s : ByteArray} {p : Nat} (h : ¬ p < s.size) (t : List El) : elsGo s p t = t := by rw [elsGo, if_neg h]
theorem if_size {c : Prop} [Decidable c] {a b : ByteArray} (ha : a.size ≤ 4) (hb : b.size ≤ 4) : (if c then a else b).size ≤ 4 := by split <;> assumption
theorem baseC_size (r : Int) : (baseC r).size ≤ 4 := by
  unfold baseC baseS
  iterate 12 (refine if_size (Nat.le_of_ble_eq_true rfl) ?_)
  exact encode_size_le _
theorem OwnS.iterAt2 {α : Type} {c : Enc α} {E : TypeId} {w0 w : World} {v : Value} {t : List α} (h : OwnS c E w0 w v t) {k : Nat} {s : ByteArray} {pos : Nat} (pos' : Nat) (hk : w.heap[k]? = some (.stringIter s pos)) : OwnS c E w0 (w.iterAt k s pos') v t := by
  obtain ⟨h1, h2⟩ := h
  refine ⟨h1, ?_⟩
  rcases h2 with h2 | ⟨g, cap, cur, e, hb, hg, r⟩
  · exact .inl h2
  · refine .inr ⟨g, cap, cur, e, hb, ?_, r⟩
    rw [Lib.iterAt_other w k g s pos' (fun e => by subst e; rw [hg] at hk; cases hk)]
    exact hg
theorem OwnS.ne_iter {α : Type} {c : Enc α} {E : TypeId} {w0 w : World} {v : Value} {t : List α} (h : OwnS c E w0 w v t) {k : Nat} {s : ByteArray} {pos : Nat} (hk : w.heap[k]? = some (.stringIter s pos)) : v.ownBlock ≠ some k := by
  obtain ⟨h1, h2⟩ := h
  rcases h2 with ⟨rfl, _⟩ | ⟨g, cap, cur, rfl, hb, hg, r⟩
  · intro e; cases e
  · intro e
    have : g = k := by simpa [Value.ownBlock] using e
    subst this
    rw [hg] at hk; cases hk
theorem extract_toEnd (s : ByteArray) (p : Nat) : (s.extract p s.size).data.toList = s.data.toList.drop p := by
  rw [extract_list, ← str_len, List.take_length]
theorem take_app_one {α β : Type} {l : List α} {i : Nat} {x : α} (f : α → β) (h : l[i]? = some x) : (l.take (i + 1)).map f = (l.take i).map f ++ [f x] := by
  rw [List.take_succ_eq_append_getElem (List.getElem?_eq_some_iff.1 h).1, (List.getElem?_eq_some_iff.1 h).2]; simp
end Go.Proofs.YtkaoipegbjmlnaaDoor
