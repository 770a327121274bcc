/-
  TEXT, CELLS: the cells of a text.
-/
import Derived.Test.YtpifkinlaicliaaDoorZTextCodesC
import Derived.Test.YtpifkinlaicliaaDoorZRecs
import Derived.StillTailTactics
namespace Go.Proofs.YtpifkinlaicliaaDoor
open Go.RowKit
attribute [local go_sem] Old.refl Old.alloc Old.drew Old.setCell OldW.old

/-- a cell of a text: from where to where, how wide -/
structure CellR where
  a : Nat
  e : Nat
  w : Nat
def cellE (s : ByteArray) : Enc CellR where
  k := 3
  enc x := [.string (s.extract x.a x.e), .int .i64 x.a, .int .i64 x.w]
  len _ := rfl
  one x u hu := by
    simp only [List.mem_cons, List.not_mem_nil, or_false] at hu
    rcases hu with rfl | rfl | rfl <;> rfl
def lastC (t : List CellR) : CellR := t.getD (t.length - 1) ⟨0, 0, 0⟩
/-- one character more -/
def addC (t : List CellR) (p q w : Nat) : List CellR := if w = 0 ∧ 0 < t.length then t.set (t.length - 1) { lastC t with e := q } else t ++ [⟨p, q, max w 1⟩]
theorem addC_grow {t : List CellR} {p q : Nat} (h : 0 < t.length) : addC t p q 0 = t.set (t.length - 1) { lastC t with e := q } := by unfold addC; rw [if_pos ⟨rfl, h⟩]
theorem addC_first {p q : Nat} : addC [] p q 0 = [⟨p, q, 1⟩] := by unfold addC; rw [if_neg (by simp)]; rfl
theorem addC_new {t : List CellR} {p q w : Nat} (h : 1 ≤ w) : addC t p q w = t ++ [⟨p, q, w⟩] := by unfold addC; rw [if_neg (by omega), Nat.max_eq_left h]
/-- the last cell ends where one is -/
def Ends (t : List CellR) (p : Nat) : Prop := 0 < t.length → (lastC t).e = p ∧ (lastC t).a ≤ p
theorem lastC_get {t : List CellR} (h : 0 < t.length) : t[t.length - 1]? = some (lastC t) := by
  unfold lastC; rw [List.getD_eq_getElem?_getD, List.getElem?_eq_getElem (by omega)]; rfl
theorem lastC_app (t : List CellR) (x : CellR) : lastC (t ++ [x]) = x := by unfold lastC; simp
theorem Ends.add {t : List CellR} {p q w : Nat} (h : Ends t p) (hq : p ≤ q) : Ends (addC t p q w) q := by
  unfold addC
  split
  · rename_i hc
    obtain ⟨h1, h2⟩ := h hc.2
    intro _
    unfold lastC
    rw [List.length_set, List.getD_eq_getElem?_getD, List.getElem?_set_self (by omega)]
    exact ⟨rfl, by show (lastC t).a ≤ q; omega⟩
  · intro _
    rw [lastC_app]
    exact ⟨rfl, hq⟩
/-- the cells, from a place on, behind those that are there -/
def cellsGo (l : List UInt8) (p : Nat) (t : List CellR) : List CellR := if p < l.length then cellsGo l (p + chN l p) (addC t p (p + chN l p) (widC (chR l p))) else t
termination_by l.length - p
decreasing_by have := chN_pos l p; omega
theorem cellsGo_on {l : List UInt8} {p : Nat} (h : p < l.length) (t : List CellR) : cellsGo l p t = cellsGo l (p + chN l p) (addC t p (p + chN l p) (widC (chR l p))) := by rw [cellsGo, if_pos h]
theorem cellsGo_end {l : List UInt8} {p : Nat} (h : ¬ p < l.length) (t : List CellR) : cellsGo l p t = t := by rw [cellsGo, if_neg h]
theorem addC_len {t : List CellR} {p q w : Nat} : (addC t p q w).length ≤ t.length + 1 := by unfold addC; split <;> simp
def cellsL (l : List UInt8) : List CellR := cellsGo l 0 []
theorem extract_glue (s : ByteArray) {a p q : Nat} (h1 : a ≤ p) (h2 : p ≤ q) : s.extract a p ++ s.extract p q = s.extract a q := by
  rw [ByteArray.extract_append_extract, Nat.min_eq_left h1, Nat.max_eq_right h2]
theorem wrap_id {x : Int} (h0 : -9223372036854775808 ≤ x) (h1 : x ≤ 9223372036854775807) : IntKind.i64.wrap x = x := by
  simp only [IntKind.wrap_i64]
  omega
theorem widC_cases (r : Int) : widC r = 0 ∨ widC r = 1 ∨ widC r = 2 := by
  unfold widC
  split
  · exact .inl rfl
  · split
    · exact .inr (.inr rfl)
    · exact .inr (.inl rfl)
end Go.Proofs.YtpifkinlaicliaaDoor
/-
  TEXT, WIDE, WORDS.
-/

namespace Go.Proofs.YtpifkinlaicliaaDoor
open Go.RowKit
attribute [local go_sem] Old.refl Old.alloc Old.drew Old.setCell OldW.old

theorem cellsGo_ind {l : List UInt8} {Q : List CellR → Nat → Prop} (step : ∀ t p, p < l.length → Q t p → Q (addC t p (p + chN l p) (widC (chR l p))) (p + chN l p)) :
    ∀ (d p : Nat) (t : List CellR), l.length - p = d → p ≤ l.length → Q t p → Q (cellsGo l p t) l.length := by
  intro d
  induction d using Nat.strongRecOn with
  | _ d ih =>
    intro p t hd hp h
    by_cases hlt : p < l.length
    · have h1 := chN_pos l p
      have h2 := chN_le hlt
      rw [cellsGo_on hlt]
      exact ih (l.length - (p + chN l p)) (by omega) _ _ rfl h2 (step t p hlt h)
    · obtain rfl : p = l.length := by omega
      rw [cellsGo_end hlt]; exact h
theorem cellsL_ind {l : List UInt8} {Q : List CellR → Nat → Prop} (h0 : Q [] 0) (step : ∀ t p, p < l.length → Q t p → Q (addC t p (p + chN l p) (widC (chR l p))) (p + chN l p)) : Q (cellsL l) l.length :=
  cellsGo_ind step _ 0 [] rfl (Nat.zero_le _) h0
theorem cellsL_len (l : List UInt8) : (cellsL l).length ≤ l.length :=
  cellsL_ind (Q := fun t p => t.length ≤ p) (Nat.le_refl _) (fun t p hp h => by
    have h1 := chN_pos l p
    have h2 := addC_len (t := t) (p := p) (q := p + chN l p) (w := widC (chR l p))
    omega)
theorem addC_mem {t : List CellR} {p q w : Nat} {x : CellR} (h : x ∈ addC t p q w) : (∃ y ∈ t, x.w = y.w) ∨ x = ⟨p, q, max w 1⟩ := by
  unfold addC at h
  split at h
  · rename_i hc
    rcases List.mem_or_eq_of_mem_set h with h | rfl
    · exact .inl ⟨x, h, rfl⟩
    · exact .inl ⟨lastC t, List.mem_of_getElem? (lastC_get hc.2), rfl⟩
  · rw [List.mem_append] at h
    rcases h with h | h
    · exact .inl ⟨x, h, rfl⟩
    · exact .inr (List.mem_singleton.1 h)
/-- each cell is one or two wide -/
theorem cellsL_wide (l : List UInt8) : ∀ x ∈ cellsL l, 1 ≤ x.w ∧ x.w ≤ 2 :=
  cellsL_ind (Q := fun t _ => ∀ x ∈ t, 1 ≤ x.w ∧ x.w ≤ 2) (by simp) (fun t p hp h x hx => by
    rcases addC_mem hx with ⟨y, hy, e⟩ | rfl
    · rw [e]; exact h y hy
    · have := widC_cases (chR l p)
      show 1 ≤ max _ 1 ∧ max _ 1 ≤ 2
      omega)
def sumW : List CellR → Nat
  | [] => 0
  | x :: t => x.w + sumW t
theorem sumW_app (t u : List CellR) : sumW (t ++ u) = sumW t + sumW u := by
  induction t with
  | nil => simp [sumW]
  | cons x t ih => simp [sumW, ih, Nat.add_assoc]
theorem sumW_take {t : List CellR} {k : Nat} {x : CellR} (h : t[k]? = some x) : sumW (t.take (k + 1)) = sumW (t.take k) + x.w := by
  have hlt := (List.getElem?_eq_some_iff.1 h).1
  rw [List.take_succ_eq_append_getElem hlt, sumW_app, (List.getElem?_eq_some_iff.1 h).2]; rfl
theorem sumW_le : ∀ {t : List CellR}, (∀ x ∈ t, 1 ≤ x.w ∧ x.w ≤ 2) → sumW t ≤ 2 * t.length
  | [], _ => by simp [sumW]
  | x :: t, h => by
    have h1 := h x (by simp)
    have h2 := sumW_le (t := t) (fun y hy => h y (by simp [hy]))
    simp only [sumW, List.length_cons]; omega
/-- how wide a text is -/
def wideS (s : ByteArray) : Nat := sumW (cellsL s.data.toList)
theorem wideS_le (s : ByteArray) : wideS s ≤ 2 * s.size := by
  have h1 := sumW_le (cellsL_wide s.data.toList)
  have h2 := cellsL_len s.data.toList
  rw [str_len] at h2
  unfold wideS; omega
end Go.Proofs.YtpifkinlaicliaaDoor
