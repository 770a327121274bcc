/-
  THE CALL's OWN MAP map[int]int, READ AS A FUNCTION TO SOMETHING OR NOTHING: over no program.
-/
import Derived.Test.YtpifkinlaicliaaGreatDoorZBase
import Derived.Maps.OwnOps
import Derived.Maps.OwnSet
namespace Go.Proofs.YtpifkinlaicliaaGreatDoor
open Go.RowKit Go.Maps

def L64 (x : Int) : Prop := -9223372036854775808 ≤ x ∧ x ≤ 9223372036854775807
theorem L64.wf {x : Int} (h : L64 x) : (Lit.int .i64 x).wf = true := WalkArith.wf_i64 h
def optN : Option Nat → Int
  | none => 0
  | some d => d
/-- block b: a map of at most n entries; the key x holds F x (none: it stands there not) -/
def MapIO (P : Program) (K E : TypeId) (w : World) (b n : Nat) (F : Int → Option Nat) : Prop :=
  ∃ D : DataW Unit, w.ownsMap P K (plainElem P E) b n D ∧ ∀ x, L64 x → Maps.has D (.int .i64 x) = (F x).isSome ∧ D.atKey (.int .i64 x) (.lit (.int .i64 0)) = .lit (.int .i64 (optN (F x)))
theorem MapIO.made (P : Program) (K E : TypeId) (w : World) : MapIO P K E (w.alloc (.map #[] 0)) w.heap.size 0 (fun _ => none) :=
  ⟨.map [], World.ownsMap_made _ _ _ _, fun _ _ => ⟨rfl, rfl⟩⟩
theorem MapIO.old {P : Program} {K E : TypeId} {w w' : World} {b n : Nat} {F : Int → Option Nat} (h : MapIO P K E w b n F) (o : Old w w') : MapIO P K E w' b n F := by
  obtain ⟨D, h1, h2⟩ := h
  exact ⟨D, h1.kept (Old.grownBy o none) (by simp), h2⟩
theorem MapIO.kept {P : Program} {K E : TypeId} {w w' : World} {b n : Nat} {F : Int → Option Nat} {row : Option Nat} (h : MapIO P K E w b n F) (hg : w.grownBy w' row) (hne : some b ≠ row) : MapIO P K E w' b n F := by
  obtain ⟨D, h1, h2⟩ := h
  exact ⟨D, h1.kept hg hne, h2⟩
theorem MapIO.lt {P : Program} {K E : TypeId} {w : World} {b n : Nat} {F : Int → Option Nat} (h : MapIO P K E w b n F) : b < w.heap.size := by
  obtain ⟨D, h1, _⟩ := h
  exact h1.lt
section
variable {P : Program} {ops : Array Oper} {rest : List Oper} {o : Oper} {a : Act} {Q : Exit → Act → World → Prop}
theorem wpList_lookup_mio {w : World} (hg : o.guard = none) (m x : Operand) (t : TypeId) (hop : o.op = Op.lookup t m x false) (k e : TypeId) (hk : P.underlying k = some (.int .i64)) (ht : P.underlying t = some (.map k e)) (he : P.underlying e = some (.int .i64))
    (hz : ∀ w, (zeroValue e).run P w = .ok (.int .i64 0) w) (b n : Nat) (F : Int → Option Nat) (hm : a.eval m = .map (some b)) (hown : MapIO P k e w b n F) (y : Int) (hx : a.eval x = .int .i64 y) (hy : L64 y)
    (z : Option Nat) (hF : F y = z) (hK : wpList P ops Q rest (a.put o.dst (.int .i64 (optN z))) w) : wpList P ops Q (o :: rest) a w := by
  subst hF
  obtain ⟨D, h1, h2⟩ := hown
  refine wpList_lookup_own_int w hg m x t hop k e .i64 (int_keyed hk) ht he (hz w) b n D hm h1 (.int .i64 y) (.int .i64 y) hx (keyOf_int_mk hk hy.wf) fun c hat _ => ?_
  rw [(h2 y hy).2] at hat
  obtain rfl : optN (F y) = c := by simpa using hat
  exact hK
theorem wpList_lookup_mio_ok {w : World} (hg : o.guard = none) (m x : Operand) (t : TypeId) (hop : o.op = Op.lookup t m x true) (k e : TypeId) (hk : P.underlying k = some (.int .i64)) (ht : P.underlying t = some (.map k e)) (he : P.underlying e = some (.int .i64))
    (hz : ∀ w, (zeroValue e).run P w = .ok (.int .i64 0) w) (b n : Nat) (F : Int → Option Nat) (hm : a.eval m = .map (some b)) (hown : MapIO P k e w b n F) (y : Int) (hx : a.eval x = .int .i64 y) (hy : L64 y)
    (z : Option Nat) (hF : F y = z) (hK : wpList P ops Q rest (a.put o.dst (.tuple #[.int .i64 (optN z), .bool z.isSome])) w) : wpList P ops Q (o :: rest) a w := by
  subst hF
  obtain ⟨D, h1, h2⟩ := hown
  refine wpList_lookup_own_ok_int w hg m x t hop k e .i64 (int_keyed hk) ht he (hz w) b n D hm h1 (.int .i64 y) (.int .i64 y) hx (keyOf_int_mk hk hy.wf) fun c hat _ => ?_
  rw [(h2 y hy).2] at hat
  obtain rfl : optN (F y) = c := by simpa using hat
  rw [(h2 y hy).1]
  exact hK
theorem mio_put {w w' : World} {k e : TypeId} {b n : Nat} {D : DataW Unit} {F : Int → Option Nat} {y : Int} {z : Nat} (h1 : w.ownsMap P k (plainElem P e) b n D) (h2 : ∀ x, L64 x → Maps.has D (.int .i64 x) = (F x).isSome ∧ D.atKey (.int .i64 x) (.lit (.int .i64 0)) = .lit (.int .i64 (optN (F x))))
    (h3 : w'.ownsMap P k (plainElem P e) b (n + 1) (D.put (.int .i64 y) (.lit (.int .i64 z)))) : MapIO P k e w' b (n + 1) (fun q => if q = y then some z else F q) := by
  refine ⟨_, h3, fun q hq => ?_⟩
  dsimp only
  by_cases e : q = y
  · rw [if_pos e, e]
    exact ⟨has_put_same (k := .int .i64 y) h1.isMap trivial _, atKey_put_same (k := .int .i64 y) h1.isMap trivial _ _⟩
  · rw [if_neg e]
    exact ⟨(has_put_other (by simpa using e) _).trans (h2 q hq).1, (atKey_put_other (by simpa using e) _ _).trans (h2 q hq).2⟩
theorem wpList_update_mio {w0 w : World} (hg : o.guard = none) (m x v : Operand) (t : TypeId) (hop : o.op = Op.mapUpdate t m x v) (k e : TypeId) (hk : P.underlying k = some (.int .i64)) (ht : P.underlying t = some (.map k e)) (he : P.underlying e = some (.int .i64))
    (b n : Nat) (F : Int → Option Nat) (hm : a.eval m = .map (some b)) (hown : MapIO P k e w b n F) (hn : n < 9223372036854775807) (y : Int) (z : Nat) (hx : a.eval x = .int .i64 y) (hy : L64 y) (hv : a.eval v = .int .i64 z) (hz : L64 z)
    (hold : Old w0 w) (hb : w0.heap.size ≤ b)
    (hK : ∀ w', MapIO P k e w' b (n + 1) (fun q => if q = y then some z else F q) → Old w0 w' → w.grownBy w' (some b) → wpList P ops Q rest (a.put o.dst undef) w') : wpList P ops Q (o :: rest) a w := by
  obtain ⟨D, h1, h2⟩ := hown
  refine wpList_mapUpdate_own w hg m x v t hop k e (int_keyed hk) ht _ b n D hm h1 (by simpa [maxLen] using hn) (.int .i64 y) (.int .i64 z) (.int .i64 y) hx hv (keyOf_int_mk hk hy.wf) _ [] (plainElem_int he hz.wf) fun w' h3 h4 => ?_
  exact hK w' (mio_put h1 h2 h3) (hold.grown h4 (fun j hj => by cases hj; exact hb)) h4
theorem wpList_insert_mio {w0 w : World} (hg : o.guard = none) (m x v : Operand) (t : TypeId) (hop : o.op = Op.insert t m x v) (k e : TypeId) (hk : P.underlying k = some (.int .i64)) (ht : P.underlying t = some (.map k e)) (he : P.underlying e = some (.int .i64))
    (b n : Nat) (F : Int → Option Nat) (hm : a.eval m = .map (some b)) (hown : MapIO P k e w b n F) (hn : n < 9223372036854775807) (y : Int) (z : Nat) (hx : a.eval x = .int .i64 y) (hy : L64 y) (hv : a.eval v = .int .i64 z) (hz : L64 z)
    (hold : Old w0 w) (hb : w0.heap.size ≤ b)
    (hK : ∀ w', MapIO P k e w' b (n + 1) (fun q => if q = y then some z else F q) → Old w0 w' → w.grownBy w' (some b) → wpList P ops Q rest (a.put o.dst undef) w') : wpList P ops Q (o :: rest) a w := by
  obtain ⟨D, h1, h2⟩ := hown
  refine wpList_plain hg fun K' hK' => ?_
  obtain ⟨w', hrun, r1, r2⟩ := h1.update (int_keyed hk) ht (by simpa [maxLen] using hn) (keyOf_int_mk hk hy.wf) (plainElem_int he hz.wf)
  unfold Oper.wp
  simp [execOp, hop, hm, hx, hv, hrun, Result.andThen]
  exact hK' _ _ (hK w' (mio_put h1 h2 r1) (hold.grown r2 (fun j hj => by cases hj; exact hb)) r2)
end
end Go.Proofs.YtpifkinlaicliaaGreatDoor
/-
  THE CALL's OWN MAP map[string]int, READ AS A FUNCTION TO SOMETHING OR NOTHING: over no program.
-/



namespace Go.Proofs.YtpifkinlaicliaaGreatDoor
open Go.RowKit Go.Maps

theorem keyStr {P : Program} {k : TypeId} (hk : P.underlying k = some .string) {x : ByteArray} (h : x.size ≤ 9223372036854775807) : keyOf P k (.string x) = some (.string x.data.toList) := by
  have h2 : x.size ≤ maxLen := by simpa [maxLen] using h
  simp [keyOf, hk, mapKey, h2]
theorem str_inj {x y : ByteArray} (h : x.data.toList = y.data.toList) : x = y := ByteArray.ext (Array.toList_inj.1 h)
/-- block b: a map of at most n entries; the key x holds F x (none: it stands there not) -/
def MapTO (P : Program) (K E : TypeId) (w : World) (b n : Nat) (F : ByteArray → Option Nat) : Prop :=
  ∃ D : DataW Unit, w.ownsMap P K (plainElem P E) b n D ∧ ∀ x : ByteArray, x.size ≤ 9223372036854775807 → Maps.has D (.string x.data.toList) = (F x).isSome ∧ D.atKey (.string x.data.toList) (.lit (.int .i64 0)) = .lit (.int .i64 (optN (F x)))
theorem MapTO.made (P : Program) (K E : TypeId) (w : World) : MapTO P K E (w.alloc (.map #[] 0)) w.heap.size 0 (fun _ => none) :=
  ⟨.map [], World.ownsMap_made _ _ _ _, fun _ _ => ⟨rfl, rfl⟩⟩
theorem MapTO.old {P : Program} {K E : TypeId} {w w' : World} {b n : Nat} {F : ByteArray → Option Nat} (h : MapTO P K E w b n F) (o : Old w w') : MapTO P K E w' b n F := by
  obtain ⟨D, h1, h2⟩ := h
  exact ⟨D, h1.kept (Old.grownBy o none) (by simp), h2⟩
theorem MapTO.kept {P : Program} {K E : TypeId} {w w' : World} {b n : Nat} {F : ByteArray → Option Nat} {row : Option Nat} (h : MapTO P K E w b n F) (hg : w.grownBy w' row) (hne : some b ≠ row) : MapTO P K E w' b n F := by
  obtain ⟨D, h1, h2⟩ := h
  exact ⟨D, h1.kept hg hne, h2⟩
theorem MapTO.lt {P : Program} {K E : TypeId} {w : World} {b n : Nat} {F : ByteArray → Option Nat} (h : MapTO P K E w b n F) : b < w.heap.size := by
  obtain ⟨D, h1, _⟩ := h
  exact h1.lt
section
variable {P : Program} {ops : Array Oper} {rest : List Oper} {o : Oper} {a : Act} {Q : Exit → Act → World → Prop}
theorem wpList_lookup_mto {w : World} (hg : o.guard = none) (m x : Operand) (t : TypeId) (hop : o.op = Op.lookup t m x false) (k e : TypeId) (hk : P.underlying k = some .string) (ht : P.underlying t = some (.map k e)) (he : P.underlying e = some (.int .i64))
    (hz : ∀ w, (zeroValue e).run P w = .ok (.int .i64 0) w) (b n : Nat) (F : ByteArray → Option Nat) (hm : a.eval m = .map (some b)) (hown : MapTO P k e w b n F) (y : ByteArray) (hx : a.eval x = .string y) (hy : y.size ≤ 9223372036854775807)
    (z : Option Nat) (hF : F y = z) (hK : wpList P ops Q rest (a.put o.dst (.int .i64 (optN z))) w) : wpList P ops Q (o :: rest) a w := by
  subst hF
  obtain ⟨D, h1, h2⟩ := hown
  refine wpList_lookup_own_int w hg m x t hop k e .i64 (string_keyed hk) ht he (hz w) b n D hm h1 (.string y) (.string y.data.toList) hx (keyStr hk hy) fun c hat _ => ?_
  rw [(h2 y hy).2] at hat
  obtain rfl : optN (F y) = c := by simpa using hat
  exact hK
theorem wpList_lookup_mto_ok {w : World} (hg : o.guard = none) (m x : Operand) (t : TypeId) (hop : o.op = Op.lookup t m x true) (k e : TypeId) (hk : P.underlying k = some .string) (ht : P.underlying t = some (.map k e)) (he : P.underlying e = some (.int .i64))
    (hz : ∀ w, (zeroValue e).run P w = .ok (.int .i64 0) w) (b n : Nat) (F : ByteArray → Option Nat) (hm : a.eval m = .map (some b)) (hown : MapTO P k e w b n F) (y : ByteArray) (hx : a.eval x = .string y) (hy : y.size ≤ 9223372036854775807)
    (z : Option Nat) (hF : F y = z) (hK : wpList P ops Q rest (a.put o.dst (.tuple #[.int .i64 (optN z), .bool z.isSome])) w) : wpList P ops Q (o :: rest) a w := by
  subst hF
  obtain ⟨D, h1, h2⟩ := hown
  refine wpList_lookup_own_ok_int w hg m x t hop k e .i64 (string_keyed hk) ht he (hz w) b n D hm h1 (.string y) (.string y.data.toList) hx (keyStr hk hy) fun c hat _ => ?_
  rw [(h2 y hy).2] at hat
  obtain rfl : optN (F y) = c := by simpa using hat
  rw [(h2 y hy).1]
  exact hK
theorem mto_put {w w' : World} {k e : TypeId} {b n : Nat} {D : DataW Unit} {F : ByteArray → Option Nat} {y : ByteArray} {z : Nat} (h1 : w.ownsMap P k (plainElem P e) b n D) (h2 : ∀ x : ByteArray, x.size ≤ 9223372036854775807 → Maps.has D (.string x.data.toList) = (F x).isSome ∧ D.atKey (.string x.data.toList) (.lit (.int .i64 0)) = .lit (.int .i64 (optN (F x))))
    (h3 : w'.ownsMap P k (plainElem P e) b (n + 1) (D.put (.string y.data.toList) (.lit (.int .i64 z)))) : MapTO P k e w' b (n + 1) (fun q => if q = y then some z else F q) := by
  refine ⟨_, h3, fun q hq => ?_⟩
  dsimp only
  by_cases e : q = y
  · rw [if_pos e, e]
    exact ⟨has_put_same (k := .string y.data.toList) h1.isMap trivial _, atKey_put_same (k := .string y.data.toList) h1.isMap trivial _ _⟩
  · rw [if_neg e]
    exact ⟨(has_put_other (fun h => e (str_inj (by injection h))) _).trans (h2 q hq).1, (atKey_put_other (fun h => e (str_inj (by injection h))) _ _).trans (h2 q hq).2⟩
theorem wpList_update_mto {w0 w : World} (hg : o.guard = none) (m x v : Operand) (t : TypeId) (hop : o.op = Op.mapUpdate t m x v) (k e : TypeId) (hk : P.underlying k = some .string) (ht : P.underlying t = some (.map k e)) (he : P.underlying e = some (.int .i64))
    (b n : Nat) (F : ByteArray → Option Nat) (hm : a.eval m = .map (some b)) (hown : MapTO P k e w b n F) (hn : n < 9223372036854775807) (y : ByteArray) (z : Nat) (hx : a.eval x = .string y) (hy : y.size ≤ 9223372036854775807) (hv : a.eval v = .int .i64 z) (hz : L64 z)
    (hold : Old w0 w) (hb : w0.heap.size ≤ b)
    (hK : ∀ w', MapTO P k e w' b (n + 1) (fun q => if q = y then some z else F q) → Old w0 w' → w.grownBy w' (some b) → wpList P ops Q rest (a.put o.dst undef) w') : wpList P ops Q (o :: rest) a w := by
  obtain ⟨D, h1, h2⟩ := hown
  refine wpList_mapUpdate_own w hg m x v t hop k e (string_keyed hk) ht _ b n D hm h1 (by simpa [maxLen] using hn) (.string y) (.int .i64 z) (.string y.data.toList) hx hv (keyStr hk hy) _ [] (plainElem_int he hz.wf) fun w' h3 h4 => ?_
  exact hK w' (mto_put h1 h2 h3) (hold.grown h4 (fun j hj => by cases hj; exact hb)) h4
theorem wpList_insert_mto {w0 w : World} (hg : o.guard = none) (m x v : Operand) (t : TypeId) (hop : o.op = Op.insert t m x v) (k e : TypeId) (hk : P.underlying k = some .string) (ht : P.underlying t = some (.map k e)) (he : P.underlying e = some (.int .i64))
    (b n : Nat) (F : ByteArray → Option Nat) (hm : a.eval m = .map (some b)) (hown : MapTO P k e w b n F) (hn : n < 9223372036854775807) (y : ByteArray) (z : Nat) (hx : a.eval x = .string y) (hy : y.size ≤ 9223372036854775807) (hv : a.eval v = .int .i64 z) (hz : L64 z)
    (hold : Old w0 w) (hb : w0.heap.size ≤ b)
    (hK : ∀ w', MapTO P k e w' b (n + 1) (fun q => if q = y then some z else F q) → Old w0 w' → w.grownBy w' (some b) → wpList P ops Q rest (a.put o.dst undef) w') : wpList P ops Q (o :: rest) a w := by
  obtain ⟨D, h1, h2⟩ := hown
  refine wpList_plain hg fun K' hK' => ?_
  obtain ⟨w', hrun, r1, r2⟩ := h1.update (string_keyed hk) ht (by simpa [maxLen] using hn) (keyStr hk hy) (plainElem_int he hz.wf)
  unfold Oper.wp
  simp [execOp, hop, hm, hx, hv, hrun, Result.andThen]
  exact hK' _ _ (hK w' (mto_put h1 h2 r1) (hold.grown r2 (fun j hj => by cases hj; exact hb)) r2)
end
end Go.Proofs.YtpifkinlaicliaaGreatDoor
