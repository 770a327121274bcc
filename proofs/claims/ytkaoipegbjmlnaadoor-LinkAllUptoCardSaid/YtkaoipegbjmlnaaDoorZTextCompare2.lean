/-
  TEXT, COMPARE: or, elements compared.
-/
import Derived.Test.YtkaoipegbjmlnaaDoorZTextElems2
import Derived.Test.YtkaoipegbjmlnaaDoorZNums
import Derived.StillTailTactics
import Derived.Laws.IdiomStrings
namespace Go.Proofs.YtkaoipegbjmlnaaDoor
open Go.RowKit
attribute [local go_sem] Old.refl Old.alloc Old.drew Old.setCell OldW.old

/-- the first that is not nought -/
def orL : List Int → Int
  | [] => 0
  | x :: r => if x = 0 then orL r else x
theorem orL_hit {l : List Int} {k : Nat} (h : k < l.length) (h' : ¬ ix l k = 0) : orL (l.drop k) = ix l k := by
  have e : ix l k = l[k] := by simp [ix, List.getD, List.getElem?_eq_getElem h]
  rw [List.drop_eq_getElem_cons h, orL, if_neg (by rw [← e]; exact h'), e]
theorem orL_skip {l : List Int} {k : Nat} (h : k < l.length) (h' : ix l k = 0) : orL (l.drop k) = orL (l.drop (k + 1)) := by
  have e : ix l k = l[k] := by simp [ix, List.getD, List.getElem?_eq_getElem h]
  rw [List.drop_eq_getElem_cons h, orL, if_pos (by rw [← e]; exact h')]
theorem Nums.fresh {k : IntKind} (w : World) (E : TypeId) (l : List Int) (h : l.length ≤ 9223372036854775807 := by simp) : Nums k (w.alloc (.cells (l.map (Value.int k)).toArray E)) (.slice (some ⟨w.heap.size, 0, none⟩) l.length l.length) l :=
  Nums.mk (Nat.le_refl _) h (fun i hi => by simp [go_sem, ix, hi])
/-- two elements -/
def cmpEl (a b : El) : Int :=
  if Lib.compareInt a.k b.k ≠ 0 then Lib.compareInt a.k b.k
  else if a.k = 1 then orL [Lib.compareInt a.d.size b.d.size, Lib.compareBytes a.d.data.toList b.d.data.toList]
  else Lib.compareInt a.r b.r
def elV (x : El) : Value := .agg #[.int .i64 x.k, .int .i32 x.r, .string x.d]
theorem compareInt_zero (x : Int) : Lib.compareInt x x = 0 := by unfold Lib.compareInt; rw [if_neg (by omega), if_neg (by omega)]
theorem compareInt_eq {x y : Int} (h : Lib.compareInt x y = 0) : x = y := by
  unfold Lib.compareInt at h
  split at h
  · omega
  · split at h
    · omega
    · omega
end Go.Proofs.YtkaoipegbjmlnaaDoor
/-
  TEXT, COMPARE: lists in order; texts by their elements, by their characters.
-/


namespace Go.Proofs.YtkaoipegbjmlnaaDoor
open Go.RowKit
attribute [local go_sem] Old.refl Old.alloc Old.drew Old.setCell OldW.old

/-- two lists, by their first unlike ones -/
def lexL {α : Type} (f : α → α → Int) : List α → List α → Int
  | [], [] => 0
  | [], _ :: _ => -1
  | _ :: _, [] => 1
  | a :: x, b :: y => if f a b = 0 then lexL f x y else f a b
theorem lexL_hit {α : Type} {f : α → α → Int} {x y : List α} {k : Nat} {a b : α} (hx : x[k]? = some a) (hy : y[k]? = some b) (h : ¬ f a b = 0) : lexL f (x.drop k) (y.drop k) = f a b := by
  rw [List.drop_eq_getElem_cons (List.getElem?_eq_some_iff.1 hx).1, List.drop_eq_getElem_cons (List.getElem?_eq_some_iff.1 hy).1, (List.getElem?_eq_some_iff.1 hx).2, (List.getElem?_eq_some_iff.1 hy).2, lexL, if_neg h]
theorem lexL_skip {α : Type} {f : α → α → Int} {x y : List α} {k : Nat} {a b : α} (hx : x[k]? = some a) (hy : y[k]? = some b) (h : f a b = 0) : lexL f (x.drop k) (y.drop k) = lexL f (x.drop (k + 1)) (y.drop (k + 1)) := by
  rw [List.drop_eq_getElem_cons (List.getElem?_eq_some_iff.1 hx).1, List.drop_eq_getElem_cons (List.getElem?_eq_some_iff.1 hy).1, (List.getElem?_eq_some_iff.1 hx).2, (List.getElem?_eq_some_iff.1 hy).2, lexL, if_pos h]
theorem lexL_end {α : Type} {f : α → α → Int} {x y : List α} {k : Nat} (h : k = min x.length y.length) : lexL f (x.drop k) (y.drop k) = Lib.compareInt x.length y.length := by
  unfold Lib.compareInt
  rcases Nat.lt_trichotomy x.length y.length with h1 | h1 | h1
  · rw [if_pos (by omega), List.drop_eq_nil_of_le (by omega), List.drop_eq_getElem_cons (by omega)]; rfl
  · rw [if_neg (by omega), if_neg (by omega), List.drop_eq_nil_of_le (by omega), List.drop_eq_nil_of_le (by omega)]; rfl
  · subst h; rw [if_neg (by omega), if_pos (by omega), (show y.drop (min x.length y.length) = [] from List.drop_eq_nil_of_le (by omega)), List.drop_eq_getElem_cons (by omega)]; rfl
/-- what a record's cells say in every later world -/
theorem Recs.three {w : World} {b off i : Nat} {t : List El} (ht : ∀ j u, (elE.all t)[j]? = some u → ∀ W, Old w W → W.cell? ⟨b, off + j, none⟩ = some u) {x : El} (hx : t[i]? = some x) :
    ∀ V, Old w V → V.cell? ⟨b, off + i * 3, none⟩ = some (.int .i64 x.k) ∧ V.cell? ⟨b, off + i * 3 + 1, none⟩ = some (.int .i32 x.r) ∧ V.cell? ⟨b, off + i * 3 + 2, none⟩ = some (.string x.d) := fun V o => by
  have h0 := ht (i * 3 + 0) _ (Enc.all_at (c := elE) (j := 0) hx rfl) V o
  have h1 := ht (i * 3 + 1) _ (Enc.all_at (c := elE) (j := 1) hx rfl) V o
  have h2 := ht (i * 3 + 2) _ (Enc.all_at (c := elE) (j := 2) hx rfl) V o
  rw [← Nat.add_assoc] at h1 h2
  exact ⟨h0, h1, h2⟩
end Go.Proofs.YtkaoipegbjmlnaaDoor
