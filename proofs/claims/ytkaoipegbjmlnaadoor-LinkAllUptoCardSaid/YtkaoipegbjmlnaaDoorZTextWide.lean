/-
  TEXT, CODES B: bases, widths.
-/
import Derived.Test.YtkaoipegbjmlnaaDoorZTextCodesA
import Derived.Deep.WholeRow
import Derived.Great.BuildSlice
import Derived.Test.YtkaoipegbjmlnaaDoorZRecs
import Derived.StillTailTactics
namespace Go.Proofs.YtkaoipegbjmlnaaDoor
open Go.RowKit
attribute [local go_sem] Old.refl Old.alloc Old.drew Old.setCell OldW.old

/-- what a small letter counts as -/
def baseS (s : Int) : ByteArray :=
  if 224 ≤ s ∧ s ≤ 229 then ⟨#[97]⟩ else if s = 230 then ⟨#[97, 101]⟩ else if s = 231 then ⟨#[99]⟩ else if 232 ≤ s ∧ s ≤ 235 then ⟨#[101]⟩ else if 236 ≤ s ∧ s ≤ 239 then ⟨#[105]⟩
  else if s = 240 then ⟨#[100]⟩ else if s = 241 then ⟨#[110]⟩ else if (242 ≤ s ∧ s ≤ 246) ∨ s = 248 then ⟨#[111]⟩ else if 249 ≤ s ∧ s ≤ 252 then ⟨#[117]⟩ else if s = 253 ∨ s = 255 then ⟨#[121]⟩
  else if s = 254 then ⟨#[116, 104]⟩ else if s = 223 then ⟨#[115, 115]⟩ else Utf8.encode s
def baseC (r : Int) : ByteArray := baseS (smallC r)
theorem ret_str {a b : ByteArray} (h : a = b) : Ending.returned (.string a) = .returned (.string b) := by rw [h]
end Go.Proofs.YtkaoipegbjmlnaaDoor
/-
  TEXT, CODES C: widths.
-/



namespace Go.Proofs.YtkaoipegbjmlnaaDoor
open Go.RowKit
attribute [local go_sem] Old.refl Old.alloc Old.drew Old.setCell OldW.old

def wideT : List (Int × Int) := [(4352, 4447), (11904, 12350), (12353, 13311), (13312, 19903), (19968, 42191), (44032, 55203), (63744, 64255), (65072, 65135), (65280, 65376), (65504, 65510), (127744, 128591), (129280, 129535), (131072, 262141)]
def zeroW (r : Int) : Bool := inR r 0 31 || inR r 127 159 || inR r 768 879 || inR r 8203 8205 || inR r 65024 65039
def wideN (r : Int) (k : Nat) : Bool := inR r (wideT.getD k (0, 0)).1 (wideT.getD k (0, 0)).2
/-- how many cells a character takes -/
def widC (r : Int) : Nat := if zeroW r then 0 else if (List.range 13).any (wideN r) then 2 else 1
/-- the table's cells -/
def wideV : Array Value := #[.int .i32 4352, .int .i32 4447, .int .i32 11904, .int .i32 12350, .int .i32 12353, .int .i32 13311, .int .i32 13312, .int .i32 19903, .int .i32 19968, .int .i32 42191, .int .i32 44032, .int .i32 55203, .int .i32 63744, .int .i32 64255, .int .i32 65072, .int .i32 65135, .int .i32 65280, .int .i32 65376, .int .i32 65504, .int .i32 65510, .int .i32 127744, .int .i32 128591, .int .i32 129280, .int .i32 129535, .int .i32 131072, .int .i32 262141]
theorem wpList_alloc {P : Program} {ops : Array Oper} {rest : List Oper} {o : Oper} {a : Act} {w : World} {Q : Exit → Act → World → Prop} (hg : o.guard = none) (t : TypeId) (ho : o.op = .alloc t) (d : Option Tmp) (hd : o.dst = d)
    (z : Value) (hz : ∀ w, (zeroValue t).run P w = .ok z w) (h : wpList P ops Q rest (a.put d (.pointer (some ⟨w.heap.size, 0, none⟩))) (w.alloc (.cells z.cells t))) : wpList P ops Q (o :: rest) a w := by
  subst hd
  refine wpList_plain hg fun K hK => ?_
  unfold Oper.wp execOp
  simp only [ho, Instr.alloc, newVar, newRow, Sem.run_bind, hz, Result.andThen_ok]
  simp [go_sem]
  exact hK _ _ h
theorem ret_i {a : Int} {b : Nat} (h : a = (b : Int)) : Ending.returned (.int .i64 a) = .returned (.int .i64 b) := by rw [h]
theorem widC_zero {r : Int} (h : zeroW r = true) : widC r = 0 := by unfold widC; rw [if_pos h]
theorem widC_two {r : Int} (h : zeroW r = false) {k : Nat} (hk : k < 13) (h' : wideN r k = true) : widC r = 2 := by
  unfold widC; rw [if_neg (by rw [h]; decide), if_pos (List.any_eq_true.2 ⟨k, by simpa using hk, h'⟩)]
theorem widC_one {r : Int} (h : zeroW r = false) (h' : ∀ k, k < 13 → wideN r k = false) : widC r = 1 := by
  unfold widC
  rw [if_neg (by rw [h]; decide), if_neg]
  rw [Bool.not_eq_true, List.any_eq_false]
  intro k hk
  rw [h' k (by simpa using hk)]; decide
end Go.Proofs.YtkaoipegbjmlnaaDoor
/-
  TEXT, CELLS: the cells of a text.
-/



namespace Go.Proofs.YtkaoipegbjmlnaaDoor
open Go.RowKit
attribute [local go_sem] Old.refl Old.alloc Old.drew Old.setCell OldW.old

/-- a cell of a text: from where to where, how wide -/
structure CellR where
  a : Nat
  e : Nat
  w : Nat
def cellE (s : ByteArray) : Enc CellR where
  k := 3
  enc x := [.string (s.extract x.a x.e), .int .i64 x.a, .int .i64 x.w]
  len _ := rfl
  one x u hu := by
    simp only [List.mem_cons, List.not_mem_nil, or_false] at hu
    rcases hu with rfl | rfl | rfl <;> rfl
def lastC (t : List CellR) : CellR := t.getD (t.length - 1) ⟨0, 0, 0⟩
/-- one character more -/
def addC (t : List CellR) (p q w : Nat) : List CellR := if w = 0 ∧ 0 < t.length then t.set (t.length - 1) { lastC t with e := q } else t ++ [⟨p, q, max w 1⟩]
theorem addC_grow {t : List CellR} {p q : Nat} (h : 0 < t.length) : addC t p q 0 = t.set (t.length - 1) { lastC t with e := q } := by unfold addC; rw [if_pos ⟨rfl, h⟩]
theorem addC_first {p q : Nat} : addC [] p q 0 = [⟨p, q, 1⟩] := by unfold addC; rw [if_neg (by simp)]; rfl
theorem addC_new {t : List CellR} {p q w : Nat} (h : 1 ≤ w) : addC t p q w = t ++ [⟨p, q, w⟩] := by unfold addC; rw [if_neg (by omega), Nat.max_eq_left h]
/-- the last cell ends where one is -/
def Ends (t : List CellR) (p : Nat) : Prop := 0 < t.length → (lastC t).e = p ∧ (lastC t).a ≤ p
theorem lastC_get {t : List CellR} (h : 0 < t.length) : t[t.length - 1]? = some (lastC t) := by
  unfold lastC; rw [List.getD_eq_getElem?_getD, List.getElem?_eq_getElem (by omega)]; rfl
theorem lastC_app (t : List CellR) (x : CellR) : lastC (t ++ [x]) = x := by unfold lastC; simp
theorem Ends.add {t : List CellR} {p q w : Nat} (h : Ends t p) (hq : p ≤ q) : Ends (addC t p q w) q := by
  unfold addC
  split
  · rename_i hc
    obtain ⟨h1, h2⟩ := h hc.2
    intro _
    unfold lastC
    rw [List.length_set, List.getD_eq_getElem?_getD, List.getElem?_set_self (by omega)]
    exact ⟨rfl, by show (lastC t).a ≤ q; omega⟩
  · intro _
    rw [lastC_app]
    exact ⟨rfl, hq⟩
/-- the cells, from a place on, behind those that are there -/
def cellsGo (l : List UInt8) (p : Nat) (t : List CellR) : List CellR := if p < l.length then cellsGo l (p + chN l p) (addC t p (p + chN l p) (widC (chR l p))) else t
termination_by l.length - p
decreasing_by have := chN_pos l p; omega
theorem cellsGo_on {l : List UInt8} {p : Nat} (h : p < l.length) (t : List CellR) : cellsGo l p t = cellsGo l (p + chN l p) (addC t p (p + chN l p) (widC (chR l p))) := by rw [cellsGo, if_pos h]
theorem cellsGo_end {l : List UInt8} {p : Nat} (h : ¬ p < l.length) (t : List CellR) : cellsGo l p t = t := by rw [cellsGo, if_neg h]
theorem addC_len {t : List CellR} {p q w : Nat} : (addC t p q w).length ≤ t.length + 1 := by unfold addC; split <;> simp
def cellsL (l : List UInt8) : List CellR := cellsGo l 0 []
theorem extract_glue (s : ByteArray) {a p q : Nat} (h1 : a ≤ p) (h2 : p ≤ q) : s.extract a p ++ s.extract p q = s.extract a q := by
  rw [ByteArray.extract_append_extract, Nat.min_eq_left h1, Nat.max_eq_right h2]
theorem wrap_id {x : Int} (h0 : -9223372036854775808 ≤ x) (h1 : x ≤ 9223372036854775807) : IntKind.i64.wrap x = x := by
  simp only [IntKind.wrap_i64]
  omega
theorem widC_cases (r : Int) : widC r = 0 ∨ widC r = 1 ∨ widC r = 2 := by
  unfold widC
  split
  · exact .inl rfl
  · split
    · exact .inr (.inr rfl)
    · exact .inr (.inl rfl)
end Go.Proofs.YtkaoipegbjmlnaaDoor
/-
  TEXT, WIDE, WORDS.
-/

namespace Go.Proofs.YtkaoipegbjmlnaaDoor
open Go.RowKit
attribute [local go_sem] Old.refl Old.alloc Old.drew Old.setCell OldW.old

theorem cellsGo_ind {l : List UInt8} {Q : List CellR → Nat → Prop} (step : ∀ t p, p < l.length → Q t p → Q (addC t p (p + chN l p) (widC (chR l p))) (p + chN l p)) :
    ∀ (d p : Nat) (t : List CellR), l.length - p = d → p ≤ l.length → Q t p → Q (cellsGo l p t) l.length := by
  intro d
  induction d using Nat.strongRecOn with
  | _ d ih =>
    intro p t hd hp h
    by_cases hlt : p < l.length
    · have h1 := chN_pos l p
      have h2 := chN_le hlt
      rw [cellsGo_on hlt]
      exact ih (l.length - (p + chN l p)) (by omega) _ _ rfl h2 (step t p hlt h)
    · obtain rfl : p = l.length := by omega
      rw [cellsGo_end hlt]; exact h
theorem cellsL_ind {l : List UInt8} {Q : List CellR → Nat → Prop} (h0 : Q [] 0) (step : ∀ t p, p < l.length → Q t p → Q (addC t p (p + chN l p) (widC (chR l p))) (p + chN l p)) : Q (cellsL l) l.length :=
  cellsGo_ind step _ 0 [] rfl (Nat.zero_le _) h0
theorem cellsL_len (l : List UInt8) : (cellsL l).length ≤ l.length :=
  cellsL_ind (Q := fun t p => t.length ≤ p) (Nat.le_refl _) (fun t p hp h => by
    have h1 := chN_pos l p
    have h2 := addC_len (t := t) (p := p) (q := p + chN l p) (w := widC (chR l p))
    omega)
theorem addC_mem {t : List CellR} {p q w : Nat} {x : CellR} (h : x ∈ addC t p q w) : (∃ y ∈ t, x.w = y.w) ∨ x = ⟨p, q, max w 1⟩ := by
  unfold addC at h
  split at h
  · rename_i hc
    rcases List.mem_or_eq_of_mem_set h with h | rfl
    · exact .inl ⟨x, h, rfl⟩
    · exact .inl ⟨lastC t, List.mem_of_getElem? (lastC_get hc.2), rfl⟩
  · rw [List.mem_append] at h
    rcases h with h | h
    · exact .inl ⟨x, h, rfl⟩
    · exact .inr (List.mem_singleton.1 h)
/-- each cell is one or two wide -/
theorem cellsL_wide (l : List UInt8) : ∀ x ∈ cellsL l, 1 ≤ x.w ∧ x.w ≤ 2 :=
  cellsL_ind (Q := fun t _ => ∀ x ∈ t, 1 ≤ x.w ∧ x.w ≤ 2) (by simp) (fun t p hp h x hx => by
    rcases addC_mem hx with ⟨y, hy, e⟩ | rfl
    · rw [e]; exact h y hy
    · have := widC_cases (chR l p)
      show 1 ≤ max _ 1 ∧ max _ 1 ≤ 2
      omega)
def sumW : List CellR → Nat
  | [] => 0
  | x :: t => x.w + sumW t
theorem sumW_app (t u : List CellR) : sumW (t ++ u) = sumW t + sumW u := by
  induction t with
  | nil => simp [sumW]
  | cons x t ih => simp [sumW, ih, Nat.add_assoc]
theorem sumW_take {t : List CellR} {k : Nat} {x : CellR} (h : t[k]? = some x) : sumW (t.take (k + 1)) = sumW (t.take k) + x.w := by
  have hlt := (List.getElem?_eq_some_iff.1 h).1
  rw [List.take_succ_eq_append_getElem hlt, sumW_app, (List.getElem?_eq_some_iff.1 h).2]; rfl
theorem sumW_le : ∀ {t : List CellR}, (∀ x ∈ t, 1 ≤ x.w ∧ x.w ≤ 2) → sumW t ≤ 2 * t.length
  | [], _ => by simp [sumW]
  | x :: t, h => by
    have h1 := h x (by simp)
    have h2 := sumW_le (t := t) (fun y hy => h y (by simp [hy]))
    simp only [sumW, List.length_cons]; omega
/-- how wide a text is -/
def wideS (s : ByteArray) : Nat := sumW (cellsL s.data.toList)
theorem wideS_le (s : ByteArray) : wideS s ≤ 2 * s.size := by
  have h1 := sumW_le (cellsL_wide s.data.toList)
  have h2 := cellsL_len s.data.toList
  rw [str_len] at h2
  unfold wideS; omega
end Go.Proofs.YtkaoipegbjmlnaaDoor
