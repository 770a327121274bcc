/-
  THE CALL's OWN MAP map[int]int, READ AS A FUNCTION: over no program.
-/
import Derived.Test.YtigpjfebnppejaaBase
import Derived.Maps.OwnOps
import Derived.Maps.OwnSet
namespace Go.Proofs.Ytigpjfebnppejaa
open Go.RowKit Go.Maps

def I64 (x : Int) : Prop := -9223372036854775808 ≤ x ∧ x ≤ 9223372036854775807
theorem I64.wf {x : Int} (h : I64 x) : (Lit.int .i64 x).wf = true := WalkArith.wf_i64 h
/-- block b: a map of at most n entries; the key x holds f x (0: it stands there not) -/
def MapII (P : Program) (K E : TypeId) (w : World) (b n : Nat) (f : Int → Int) : Prop :=
  ∃ D : DataW Unit, w.ownsMap P K (plainElem P E) b n D ∧ ∀ x, I64 x → D.atKey (.int .i64 x) (.lit (.int .i64 0)) = .lit (.int .i64 (f x))
theorem MapII.made (P : Program) (K E : TypeId) (w : World) : MapII P K E (w.alloc (.map #[] 0)) w.heap.size 0 (fun _ => 0) :=
  ⟨.map [], World.ownsMap_made _ _ _ _, fun _ _ => rfl⟩
theorem MapII.old {P : Program} {K E : TypeId} {w w' : World} {b n : Nat} {f : Int → Int} (h : MapII P K E w b n f) (o : Old w w') : MapII P K E w' b n f := by
  obtain ⟨D, h1, h2⟩ := h
  exact ⟨D, h1.kept (Old.grownBy o none) (by simp), h2⟩
theorem MapII.kept {P : Program} {K E : TypeId} {w w' : World} {b n : Nat} {f : Int → Int} {row : Option Nat} (h : MapII P K E w b n f) (hg : w.grownBy w' row) (hne : some b ≠ row) : MapII P K E w' b n f := by
  obtain ⟨D, h1, h2⟩ := h
  exact ⟨D, h1.kept hg hne, h2⟩
theorem MapII.lt {P : Program} {K E : TypeId} {w : World} {b n : Nat} {f : Int → Int} (h : MapII P K E w b n f) : b < w.heap.size := by
  obtain ⟨D, h1, _⟩ := h
  exact h1.lt
section
variable {P : Program} {ops : Array Oper} {rest : List Oper} {o : Oper} {a : Act} {Q : Exit → Act → World → Prop}
theorem wpList_lookup_mii {w : World} (hg : o.guard = none) (m x : Operand) (t : TypeId) (hop : o.op = Op.lookup t m x false) (k e : TypeId) (hk : P.underlying k = some (.int .i64)) (ht : P.underlying t = some (.map k e)) (he : P.underlying e = some (.int .i64))
    (hz : ∀ w, (zeroValue e).run P w = .ok (.int .i64 0) w) (b n : Nat) (f : Int → Int) (hm : a.eval m = .map (some b)) (hown : MapII P k e w b n f) (y : Int) (hx : a.eval x = .int .i64 y) (hy : I64 y)
    (hK : wpList P ops Q rest (a.put o.dst (.int .i64 (f y))) w) : wpList P ops Q (o :: rest) a w := by
  obtain ⟨D, h1, h2⟩ := hown
  refine wpList_lookup_own_int w hg m x t hop k e .i64 (int_keyed hk) ht he (hz w) b n D hm h1 (.int .i64 y) (.int .i64 y) hx (keyOf_int_mk hk hy.wf) fun c hat _ => ?_
  rw [h2 y hy] at hat
  obtain rfl : f y = c := by simpa using hat
  exact hK
theorem wpList_update_mii {w0 w : World} (hg : o.guard = none) (m x v : Operand) (t : TypeId) (hop : o.op = Op.mapUpdate t m x v) (k e : TypeId) (hk : P.underlying k = some (.int .i64)) (ht : P.underlying t = some (.map k e)) (he : P.underlying e = some (.int .i64))
    (b n : Nat) (f : Int → Int) (hm : a.eval m = .map (some b)) (hown : MapII P k e w b n f) (hn : n < 9223372036854775807) (y z : Int) (hx : a.eval x = .int .i64 y) (hy : I64 y) (hv : a.eval v = .int .i64 z) (hz : I64 z)
    (hold : Old w0 w) (hb : w0.heap.size ≤ b)
    (hK : ∀ w', MapII P k e w' b (n + 1) (fun q => if q = y then z else f q) → Old w0 w' → w.grownBy w' (some b) → wpList P ops Q rest (a.put o.dst undef) w') : wpList P ops Q (o :: rest) a w := by
  obtain ⟨D, h1, h2⟩ := hown
  refine wpList_mapUpdate_own w hg m x v t hop k e (int_keyed hk) ht _ b n D hm h1 (by simpa [maxLen] using hn) (.int .i64 y) (.int .i64 z) (.int .i64 y) hx hv (keyOf_int_mk hk hy.wf) _ [] (plainElem_int he hz.wf) fun w' h3 h4 => ?_
  refine hK w' ⟨_, h3, fun q hq => ?_⟩ (hold.grown h4 (fun j hj => by cases hj; exact hb)) h4
  dsimp only
  by_cases e : q = y
  · rw [if_pos e, e]
    exact atKey_put_same (k := .int .i64 y) h1.isMap trivial _ _
  · rw [if_neg e]
    exact (atKey_put_other (by simpa using e) _ _).trans (h2 q hq)
end
end Go.Proofs.Ytigpjfebnppejaa
