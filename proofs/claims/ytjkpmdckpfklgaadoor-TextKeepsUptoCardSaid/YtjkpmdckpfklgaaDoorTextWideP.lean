/-
  TEXT, WIDE, PLAIN: how wide two texts are, one behind the other.
-/
import Derived.Test.YtjkpmdckpfklgaaDoorTextWide
import Derived.Test.YtjkpmdckpfklgaaDoorTextRefA
import Derived.Test.YtjkpmdckpfklgaaDoorTextJoin
namespace Go.Proofs.YtjkpmdckpfklgaaDoor
open Go.RowKit

/-- how wide what stands from a place on is -/
def tailW (l : List UInt8) (p : Nat) (f : Bool) : Nat :=
  if p < l.length then (if widC (chR l p) = 0 ∧ f = true then 0 else max (widC (chR l p)) 1) + tailW l (p + chN l p) true else 0
termination_by l.length - p
decreasing_by have := chN_pos l p; omega
theorem tailW_on {l : List UInt8} {p : Nat} (h : p < l.length) (f : Bool) : tailW l p f = (if widC (chR l p) = 0 ∧ f = true then 0 else max (widC (chR l p)) 1) + tailW l (p + chN l p) true := by rw [tailW, if_pos h]
theorem tailW_end {l : List UInt8} {p : Nat} (h : ¬ p < l.length) (f : Bool) : tailW l p f = 0 := by rw [tailW, if_neg h]
theorem sumW_set : ∀ {t : List CellR} {i : Nat} {x y : CellR}, t[i]? = some x → y.w = x.w → sumW (t.set i y) = sumW t
  | [], i, x, y, h, _ => by simp at h
  | z :: t, 0, x, y, h, hw => by
    obtain rfl : z = x := by simpa using h
    rw [List.set_cons_zero]; simp [sumW, hw]
  | z :: t, i + 1, x, y, h, hw => by
    rw [List.set_cons_succ]
    simp only [sumW]
    rw [sumW_set (t := t) (i := i) (by simpa using h) hw]
theorem sumW_addC (t : List CellR) (p q w : Nat) : sumW (addC t p q w) = sumW t + if w = 0 ∧ decide (0 < t.length) = true then 0 else max w 1 := by
  unfold addC
  by_cases h : w = 0 ∧ 0 < t.length
  · rw [if_pos h, if_pos ⟨h.1, by simpa using h.2⟩, Nat.add_zero]
    exact sumW_set (lastC_get h.2) rfl
  · rw [if_neg h, if_neg (by simpa using h), sumW_app]
    simp [sumW]
theorem addC_pos (t : List CellR) (p q w : Nat) : 0 < (addC t p q w).length := by
  unfold addC
  split
  · rename_i h; rw [List.length_set]; exact h.2
  · simp
theorem cellsGo_sum {l : List UInt8} : ∀ (d p : Nat) (t : List CellR), l.length - p = d → sumW (cellsGo l p t) = sumW t + tailW l p (decide (0 < t.length)) := by
  intro d
  induction d using Nat.strongRecOn with
  | _ d ih =>
    intro p t hd
    by_cases h : p < l.length
    · have h1 := chN_pos l p
      rw [cellsGo_on h, ih _ (by omega) _ _ rfl, sumW_addC, tailW_on h, decide_eq_true (addC_pos _ _ _ _), Nat.add_assoc]
    · rw [cellsGo_end h, tailW_end h, Nat.add_zero]
theorem wideS_tail (s : ByteArray) : wideS s = tailW s.data.toList 0 false := by
  unfold wideS cellsL
  rw [cellsGo_sum _ 0 [] rfl]
  simp [sumW]
theorem tailW_shift (a b : List UInt8) : ∀ (d q : Nat) (f : Bool), b.length - q = d → tailW (a ++ b) (a.length + q) f = tailW b q f := by
  intro d
  induction d using Nat.strongRecOn with
  | _ d ih =>
    intro q f hd
    by_cases h : q < b.length
    · have h1 := chN_pos b q
      rw [tailW_on (by rw [List.length_append]; omega), tailW_on h, chR_shift, chN_shift, Nat.add_assoc a.length, ih _ (by omega) _ _ rfl]
    · rw [tailW_end (by rw [List.length_append]; omega), tailW_end h]
theorem charsAt_from {l : List UInt8} {p : Nat} {x : Chr} (h : x ∈ charsAt l p) : p ≤ x.at' := by
  obtain ⟨i, hi, rfl⟩ := List.getElem_of_mem h
  exact (charsAt_get i p _ (List.getElem?_eq_getElem hi)).1
/-- a place where a character stands: what is ahead of it is as it is alone -/
theorem at_cut {a b : List UInt8} {p : Nat} (h : p < a.length) (hx : ∃ x ∈ charsAt (a ++ b) p, x.at' = a.length) :
    p + chN (a ++ b) p ≤ a.length ∧ (∃ x ∈ charsAt (a ++ b) (p + chN (a ++ b) p), x.at' = a.length) := by
  obtain ⟨x, hm, he⟩ := hx
  rw [charsAt_on (by rw [List.length_append]; omega)] at hm
  rcases List.mem_cons.1 hm with rfl | hm
  · simp at he; omega
  · exact ⟨by have := charsAt_from hm; omega, x, hm, he⟩
theorem tailW_cut {a b : List UInt8} : ∀ (d p : Nat) (f : Bool), a.length - p = d → p ≤ a.length → (∃ x ∈ charsAt (a ++ b) p, x.at' = a.length) →
    tailW (a ++ b) p f = tailW a p f + tailW (a ++ b) a.length (f || decide (p < a.length)) := by
  intro d
  induction d using Nat.strongRecOn with
  | _ d ih =>
    intro p f hd hp hx
    by_cases h : p < a.length
    · obtain ⟨h1, h2⟩ := at_cut h hx
      obtain ⟨e1, e2⟩ := ch_cut h h1
      have h3 := chN_pos a p
      rw [tailW_on (by rw [List.length_append]; omega), tailW_on h, ih _ (by omega) _ _ rfl h1 h2, e1, e2, decide_eq_true h, Bool.or_true, Bool.true_or, Nat.add_assoc]
    · obtain rfl : p = a.length := by omega
      rw [tailW_end (l := a) h, decide_eq_false h, Bool.or_false, Nat.zero_add]
theorem tailW_first {b : List UInt8} (h : 0 < b.length) (hw : widC (chR b 0) ≠ 0) (f g : Bool) : tailW b 0 f = tailW b 0 g := by
  rw [tailW_on h, tailW_on h, if_neg (fun k => hw k.1), if_neg (fun k => hw k.1)]
theorem app_list (a b : ByteArray) : (a ++ b).data.toList = a.data.toList ++ b.data.toList := by
  rw [ByteArray.data_append, Array.toList_append]
/-- **two texts, one behind the other** -/
theorem wide_join (a b : ByteArray) (hx : ∃ x ∈ charsAt (a ++ b).data.toList 0, x.at' = a.size) (hb : 0 < b.size) (hw : widC (chR b.data.toList 0) ≠ 0) : wideS (a ++ b) = wideS a + wideS b := by
  rw [wideS_tail, wideS_tail, wideS_tail]
  rw [app_list] at hx ⊢
  rw [← str_len] at hx hb
  rw [tailW_cut _ 0 false rfl (Nat.zero_le _) hx]
  have := tailW_shift a.data.toList b.data.toList _ 0 (false || decide (0 < a.data.toList.length)) rfl
  rw [Nat.add_zero] at this
  rw [this, tailW_first hb hw _ false]
end Go.Proofs.YtjkpmdckpfklgaaDoor
