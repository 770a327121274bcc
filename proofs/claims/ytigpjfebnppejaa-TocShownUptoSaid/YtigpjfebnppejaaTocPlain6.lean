/-
  PLAIN LAWS 6 of contents: what TocShown says.
-/
import Derived.Test.YtigpjfebnppejaaTocPlain5
namespace Go.Proofs.Ytigpjfebnppejaa
open Go.RowKit

theorem hasB_iff {l : List Int} {x : Int} : hasB l x = true ↔ x ∈ l := by unfold hasB; simp
theorem hasB_shTo {t : List (Int × Int)} {o : List Int} {n i : Nat} (h : i < n) : hasB (shTo t o n) (i : Int) = shB t o i := by
  rw [Bool.eq_iff_iff, hasB_iff]
  unfold shTo
  rw [List.mem_map]
  constructor
  · rintro ⟨j, hj, e⟩
    have e' : j = i := Int.ofNat.inj e
    subst e'
    exact (List.mem_filter.1 hj).2
  · exact fun hs => ⟨i, List.mem_filter.2 ⟨List.mem_range.2 h, hs⟩, rfl⟩
theorem shB_mono {t : List (Int × Int)} {o o' : List Int} (h : ∀ x, hasB o x = true → hasB o' x = true) (i : Nat) : shB t o i = true → shB t o' i = true := by
  intro hs
  rcases par_cases t i with hp | ⟨j, hp, hj⟩
  · exact shB_root (by omega)
  · rw [shB_deep hp, Bool.and_eq_true] at hs ⊢
    exact ⟨shB_mono h j hs.1, h _ hs.2⟩
termination_by i
theorem hasB_left {o m : List Int} {x : Int} (h : hasB o x = true) : hasB (o ++ m) x = true := hasB_iff.2 (List.mem_append_left _ (hasB_iff.1 h))
theorem hasB_tab {n i : Nat} {f : Nat → Int} (h : i < n) : hasB (tab n f) (f i) = true := by
  rw [hasB_iff]; unfold tab
  exact List.mem_map.2 ⟨i, List.mem_range.2 h, rfl⟩
theorem shB_all {t : List (Int × Int)} {n : Nat} (i : Nat) (hi : i < n) : shB t (tab n (p0 t)) i = true := by
  rcases par_cases t i with hp | ⟨j, hp, hj⟩
  · exact shB_root (by omega)
  · rw [shB_deep hp, shB_all j (by omega), hasB_tab (by omega)]; rfl
termination_by i
theorem shTo_all {t : List (Int × Int)} {n : Nat} : ∀ k, k ≤ n → (shTo t (tab n (p0 t)) k).length = k
  | 0, _ => rfl
  | k + 1, h => by rw [shTo_yes (shB_all k (by omega)), List.length_append, shTo_all k (by omega)]; rfl
theorem tab_snoc (k : Nat) (f : Nat → Int) : tab (k + 1) f = tab k f ++ [f k] := by simp [tab, List.range_succ]
def wantB (L o : List Int) (k : Nat) : Bool := (List.range k).all fun j => hasB o (ix L j)
theorem wantB_zero (L o : List Int) : wantB L o 0 = true := rfl
theorem wantB_succ (L o : List Int) (k : Nat) : wantB L o (k + 1) = (wantB L o k && hasB o (ix L k)) := by
  unfold wantB
  rw [List.range_succ, List.all_append]
  simp
theorem ix_left {L m : List Int} {k : Nat} (h : k < L.length) : ix (L ++ m) k = ix L k := by simp [ix, List.getD, List.getElem?_append_left h]
theorem wantB_left {L m o : List Int} {k : Nat} (h : k ≤ L.length) : wantB (L ++ m) o k = wantB L o k := by
  unfold wantB
  rw [Bool.eq_iff_iff, List.all_eq_true, List.all_eq_true]
  constructor <;> intro h' j hj <;> have := h' j hj <;> have hj' := List.mem_range.1 hj
  · rwa [ix_left (by omega)] at this
  · rwa [ix_left (by omega)]
theorem want_path (t : List (Int × Int)) (o : List Int) (i : Nat) : wantB (upL t i).reverse o ((upL t i).length - 1) = shB t o i := by
  rcases par_cases t i with hp | ⟨j, hp, hj⟩
  · rw [upL_root (by omega), shB_root (by omega)]; rfl
  · have hpos := upL_pos t j
    have ih := want_path t o j
    rw [upL_deep hp, shB_deep hp, ← ih]
    rw [List.reverse_cons, show (p0 t i :: upL t j).length - 1 = (upL t j).length - 1 + 1 from by simp; omega, wantB_left (by rw [List.length_reverse]; omega), wantB_succ]
    congr 2
    rw [ix_reverse (by omega), show (upL t j).length - 1 - ((upL t j).length - 1) = 0 from by omega]
    exact upL_head t j
termination_by i
end Go.Proofs.Ytigpjfebnppejaa
