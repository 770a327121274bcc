/-
  THE CALL's OWN MAP map[int]int, READ AS A FUNCTION TO SOMETHING OR NOTHING: over no program.
-/
import Derived.Test.YtohngjkedhpikaaGreatDoorZBase
import Derived.Maps.OwnOps
import Derived.Maps.OwnSet
import Derived.Test.YtohngjkedhpikaaGreatDoorZMapsV
import Derived.Test.YtohngjkedhpikaaGreatDoorZBuilder
import Derived.Test.YtohngjkedhpikaaGreatDoorZTextWords
namespace Go.Proofs.YtohngjkedhpikaaGreatDoor
open Go.RowKit Go.Maps

def L64 (x : Int) : Prop := -9223372036854775808 ≤ x ∧ x ≤ 9223372036854775807
theorem L64.wf {x : Int} (h : L64 x) : (Lit.int .i64 x).wf = true := WalkArith.wf_i64 h
def optN : Option Nat → Int
  | none => 0
  | some d => d
/-- block b: a map of at most n entries; the key x holds F x (none: it stands there not) -/
def MapIO (P : Program) (K E : TypeId) (w : World) (b n : Nat) (F : Int → Option Nat) : Prop :=
  ∃ D : DataW Unit, w.ownsMap P K (plainElem P E) b n D ∧ ∀ x, L64 x → Maps.has D (.int .i64 x) = (F x).isSome ∧ D.atKey (.int .i64 x) (.lit (.int .i64 0)) = .lit (.int .i64 (optN (F x)))
theorem MapIO.made (P : Program) (K E : TypeId) (w : World) : MapIO P K E (w.alloc (.map #[] 0)) w.heap.size 0 (fun _ => none) :=
  ⟨.map [], World.ownsMap_made _ _ _ _, fun _ _ => ⟨rfl, rfl⟩⟩
theorem MapIO.old {P : Program} {K E : TypeId} {w w' : World} {b n : Nat} {F : Int → Option Nat} (h : MapIO P K E w b n F) (o : Old w w') : MapIO P K E w' b n F := by
  obtain ⟨D, h1, h2⟩ := h
  exact ⟨D, h1.kept (Old.grownBy o none) (by simp), h2⟩
theorem MapIO.kept {P : Program} {K E : TypeId} {w w' : World} {b n : Nat} {F : Int → Option Nat} {row : Option Nat} (h : MapIO P K E w b n F) (hg : w.grownBy w' row) (hne : some b ≠ row) : MapIO P K E w' b n F := by
  obtain ⟨D, h1, h2⟩ := h
  exact ⟨D, h1.kept hg hne, h2⟩
theorem MapIO.lt {P : Program} {K E : TypeId} {w : World} {b n : Nat} {F : Int → Option Nat} (h : MapIO P K E w b n F) : b < w.heap.size := by
  obtain ⟨D, h1, _⟩ := h
  exact h1.lt
section
variable {P : Program} {ops : Array Oper} {rest : List Oper} {o : Oper} {a : Act} {Q : Exit → Act → World → Prop}
theorem wpList_lookup_mio {w : World} (hg : o.guard = none) (m x : Operand) (t : TypeId) (hop : o.op = Op.lookup t m x false) (k e : TypeId) (hk : P.underlying k = some (.int .i64)) (ht : P.underlying t = some (.map k e)) (he : P.underlying e = some (.int .i64))
    (hz : ∀ w, (zeroValue e).run P w = .ok (.int .i64 0) w) (b n : Nat) (F : Int → Option Nat) (hm : a.eval m = .map (some b)) (hown : MapIO P k e w b n F) (y : Int) (hx : a.eval x = .int .i64 y) (hy : L64 y)
    (z : Option Nat) (hF : F y = z) (hK : wpList P ops Q rest (a.put o.dst (.int .i64 (optN z))) w) : wpList P ops Q (o :: rest) a w := by
  subst hF
  obtain ⟨D, h1, h2⟩ := hown
  refine wpList_lookup_own_int w hg m x t hop k e .i64 (int_keyed hk) ht he (hz w) b n D hm h1 (.int .i64 y) (.int .i64 y) hx (keyOf_int_mk hk hy.wf) fun c hat _ => ?_
  rw [(h2 y hy).2] at hat
  obtain rfl : optN (F y) = c := by simpa using hat
  exact hK
theorem wpList_lookup_mio_ok {w : World} (hg : o.guard = none) (m x : Operand) (t : TypeId) (hop : o.op = Op.lookup t m x true) (k e : TypeId) (hk : P.underlying k = some (.int .i64)) (ht : P.underlying t = some (.map k e)) (he : P.underlying e = some (.int .i64))
    (hz : ∀ w, (zeroValue e).run P w = .ok (.int .i64 0) w) (b n : Nat) (F : Int → Option Nat) (hm : a.eval m = .map (some b)) (hown : MapIO P k e w b n F) (y : Int) (hx : a.eval x = .int .i64 y) (hy : L64 y)
    (z : Option Nat) (hF : F y = z) (hK : wpList P ops Q rest (a.put o.dst (.tuple #[.int .i64 (optN z), .bool z.isSome])) w) : wpList P ops Q (o :: rest) a w := by
  subst hF
  obtain ⟨D, h1, h2⟩ := hown
  refine wpList_lookup_own_ok_int w hg m x t hop k e .i64 (int_keyed hk) ht he (hz w) b n D hm h1 (.int .i64 y) (.int .i64 y) hx (keyOf_int_mk hk hy.wf) fun c hat _ => ?_
  rw [(h2 y hy).2] at hat
  obtain rfl : optN (F y) = c := by simpa using hat
  rw [(h2 y hy).1]
  exact hK
theorem mio_put {w w' : World} {k e : TypeId} {b n : Nat} {D : DataW Unit} {F : Int → Option Nat} {y : Int} {z : Nat} (h1 : w.ownsMap P k (plainElem P e) b n D) (h2 : ∀ x, L64 x → Maps.has D (.int .i64 x) = (F x).isSome ∧ D.atKey (.int .i64 x) (.lit (.int .i64 0)) = .lit (.int .i64 (optN (F x))))
    (h3 : w'.ownsMap P k (plainElem P e) b (n + 1) (D.put (.int .i64 y) (.lit (.int .i64 z)))) : MapIO P k e w' b (n + 1) (fun q => if q = y then some z else F q) := by
  refine ⟨_, h3, fun q hq => ?_⟩
  dsimp only
  by_cases e : q = y
  · rw [if_pos e, e]
    exact ⟨has_put_same (k := .int .i64 y) h1.isMap trivial _, atKey_put_same (k := .int .i64 y) h1.isMap trivial _ _⟩
  · rw [if_neg e]
    exact ⟨(has_put_other (by simpa using e) _).trans (h2 q hq).1, (atKey_put_other (by simpa using e) _ _).trans (h2 q hq).2⟩
theorem wpList_update_mio {w0 w : World} (hg : o.guard = none) (m x v : Operand) (t : TypeId) (hop : o.op = Op.mapUpdate t m x v) (k e : TypeId) (hk : P.underlying k = some (.int .i64)) (ht : P.underlying t = some (.map k e)) (he : P.underlying e = some (.int .i64))
    (b n : Nat) (F : Int → Option Nat) (hm : a.eval m = .map (some b)) (hown : MapIO P k e w b n F) (hn : n < 9223372036854775807) (y : Int) (z : Nat) (hx : a.eval x = .int .i64 y) (hy : L64 y) (hv : a.eval v = .int .i64 z) (hz : L64 z)
    (hold : Old w0 w) (hb : w0.heap.size ≤ b)
    (hK : ∀ w', MapIO P k e w' b (n + 1) (fun q => if q = y then some z else F q) → Old w0 w' → w.grownBy w' (some b) → wpList P ops Q rest (a.put o.dst undef) w') : wpList P ops Q (o :: rest) a w := by
  obtain ⟨D, h1, h2⟩ := hown
  refine wpList_mapUpdate_own w hg m x v t hop k e (int_keyed hk) ht _ b n D hm h1 (by simpa [maxLen] using hn) (.int .i64 y) (.int .i64 z) (.int .i64 y) hx hv (keyOf_int_mk hk hy.wf) _ [] (plainElem_int he hz.wf) fun w' h3 h4 => ?_
  exact hK w' (mio_put h1 h2 h3) (hold.grown h4 (fun j hj => by cases hj; exact hb)) h4
theorem wpList_insert_mio {w0 w : World} (hg : o.guard = none) (m x v : Operand) (t : TypeId) (hop : o.op = Op.insert t m x v) (k e : TypeId) (hk : P.underlying k = some (.int .i64)) (ht : P.underlying t = some (.map k e)) (he : P.underlying e = some (.int .i64))
    (b n : Nat) (F : Int → Option Nat) (hm : a.eval m = .map (some b)) (hown : MapIO P k e w b n F) (hn : n < 9223372036854775807) (y : Int) (z : Nat) (hx : a.eval x = .int .i64 y) (hy : L64 y) (hv : a.eval v = .int .i64 z) (hz : L64 z)
    (hold : Old w0 w) (hb : w0.heap.size ≤ b)
    (hK : ∀ w', MapIO P k e w' b (n + 1) (fun q => if q = y then some z else F q) → Old w0 w' → w.grownBy w' (some b) → wpList P ops Q rest (a.put o.dst undef) w') : wpList P ops Q (o :: rest) a w := by
  obtain ⟨D, h1, h2⟩ := hown
  refine wpList_plain hg fun K' hK' => ?_
  obtain ⟨w', hrun, r1, r2⟩ := h1.update (int_keyed hk) ht (by simpa [maxLen] using hn) (keyOf_int_mk hk hy.wf) (plainElem_int he hz.wf)
  unfold Oper.wp
  simp [execOp, hop, hm, hx, hv, hrun, Result.andThen]
  exact hK' _ _ (hK w' (mio_put h1 h2 r1) (hold.grown r2 (fun j hj => by cases hj; exact hb)) r2)
end
end Go.Proofs.YtohngjkedhpikaaGreatDoor
/-
  THE CALL's OWN MAP map[string]int, READ AS A FUNCTION TO SOMETHING OR NOTHING: over no program.
-/



namespace Go.Proofs.YtohngjkedhpikaaGreatDoor
open Go.RowKit Go.Maps

theorem keyStr {P : Program} {k : TypeId} (hk : P.underlying k = some .string) {x : ByteArray} (h : x.size ≤ 9223372036854775807) : keyOf P k (.string x) = some (.string x.data.toList) := by
  have h2 : x.size ≤ maxLen := by simpa [maxLen] using h
  simp [keyOf, hk, mapKey, h2]
theorem str_inj {x y : ByteArray} (h : x.data.toList = y.data.toList) : x = y := ByteArray.ext (Array.toList_inj.1 h)
/-- block b: a map of at most n entries; the key x holds F x (none: it stands there not) -/
def MapTO (P : Program) (K E : TypeId) (w : World) (b n : Nat) (F : ByteArray → Option Nat) : Prop :=
  ∃ D : DataW Unit, w.ownsMap P K (plainElem P E) b n D ∧ ∀ x : ByteArray, x.size ≤ 9223372036854775807 → Maps.has D (.string x.data.toList) = (F x).isSome ∧ D.atKey (.string x.data.toList) (.lit (.int .i64 0)) = .lit (.int .i64 (optN (F x)))
theorem MapTO.made (P : Program) (K E : TypeId) (w : World) : MapTO P K E (w.alloc (.map #[] 0)) w.heap.size 0 (fun _ => none) :=
  ⟨.map [], World.ownsMap_made _ _ _ _, fun _ _ => ⟨rfl, rfl⟩⟩
theorem MapTO.old {P : Program} {K E : TypeId} {w w' : World} {b n : Nat} {F : ByteArray → Option Nat} (h : MapTO P K E w b n F) (o : Old w w') : MapTO P K E w' b n F := by
  obtain ⟨D, h1, h2⟩ := h
  exact ⟨D, h1.kept (Old.grownBy o none) (by simp), h2⟩
theorem MapTO.kept {P : Program} {K E : TypeId} {w w' : World} {b n : Nat} {F : ByteArray → Option Nat} {row : Option Nat} (h : MapTO P K E w b n F) (hg : w.grownBy w' row) (hne : some b ≠ row) : MapTO P K E w' b n F := by
  obtain ⟨D, h1, h2⟩ := h
  exact ⟨D, h1.kept hg hne, h2⟩
theorem MapTO.lt {P : Program} {K E : TypeId} {w : World} {b n : Nat} {F : ByteArray → Option Nat} (h : MapTO P K E w b n F) : b < w.heap.size := by
  obtain ⟨D, h1, _⟩ := h
  exact h1.lt
section
variable {P : Program} {ops : Array Oper} {rest : List Oper} {o : Oper} {a : Act} {Q : Exit → Act → World → Prop}
theorem wpList_lookup_mto {w : World} (hg : o.guard = none) (m x : Operand) (t : TypeId) (hop : o.op = Op.lookup t m x false) (k e : TypeId) (hk : P.underlying k = some .string) (ht : P.underlying t = some (.map k e)) (he : P.underlying e = some (.int .i64))
    (hz : ∀ w, (zeroValue e).run P w = .ok (.int .i64 0) w) (b n : Nat) (F : ByteArray → Option Nat) (hm : a.eval m = .map (some b)) (hown : MapTO P k e w b n F) (y : ByteArray) (hx : a.eval x = .string y) (hy : y.size ≤ 9223372036854775807)
    (z : Option Nat) (hF : F y = z) (hK : wpList P ops Q rest (a.put o.dst (.int .i64 (optN z))) w) : wpList P ops Q (o :: rest) a w := by
  subst hF
  obtain ⟨D, h1, h2⟩ := hown
  refine wpList_lookup_own_int w hg m x t hop k e .i64 (string_keyed hk) ht he (hz w) b n D hm h1 (.string y) (.string y.data.toList) hx (keyStr hk hy) fun c hat _ => ?_
  rw [(h2 y hy).2] at hat
  obtain rfl : optN (F y) = c := by simpa using hat
  exact hK
theorem wpList_lookup_mto_ok {w : World} (hg : o.guard = none) (m x : Operand) (t : TypeId) (hop : o.op = Op.lookup t m x true) (k e : TypeId) (hk : P.underlying k = some .string) (ht : P.underlying t = some (.map k e)) (he : P.underlying e = some (.int .i64))
    (hz : ∀ w, (zeroValue e).run P w = .ok (.int .i64 0) w) (b n : Nat) (F : ByteArray → Option Nat) (hm : a.eval m = .map (some b)) (hown : MapTO P k e w b n F) (y : ByteArray) (hx : a.eval x = .string y) (hy : y.size ≤ 9223372036854775807)
    (z : Option Nat) (hF : F y = z) (hK : wpList P ops Q rest (a.put o.dst (.tuple #[.int .i64 (optN z), .bool z.isSome])) w) : wpList P ops Q (o :: rest) a w := by
  subst hF
  obtain ⟨D, h1, h2⟩ := hown
  refine wpList_lookup_own_ok_int w hg m x t hop k e .i64 (string_keyed hk) ht he (hz w) b n D hm h1 (.string y) (.string y.data.toList) hx (keyStr hk hy) fun c hat _ => ?_
  rw [(h2 y hy).2] at hat
  obtain rfl : optN (F y) = c := by simpa using hat
  rw [(h2 y hy).1]
  exact hK
theorem mto_put {w w' : World} {k e : TypeId} {b n : Nat} {D : DataW Unit} {F : ByteArray → Option Nat} {y : ByteArray} {z : Nat} (h1 : w.ownsMap P k (plainElem P e) b n D) (h2 : ∀ x : ByteArray, x.size ≤ 9223372036854775807 → Maps.has D (.string x.data.toList) = (F x).isSome ∧ D.atKey (.string x.data.toList) (.lit (.int .i64 0)) = .lit (.int .i64 (optN (F x))))
    (h3 : w'.ownsMap P k (plainElem P e) b (n + 1) (D.put (.string y.data.toList) (.lit (.int .i64 z)))) : MapTO P k e w' b (n + 1) (fun q => if q = y then some z else F q) := by
  refine ⟨_, h3, fun q hq => ?_⟩
  dsimp only
  by_cases e : q = y
  · rw [if_pos e, e]
    exact ⟨has_put_same (k := .string y.data.toList) h1.isMap trivial _, atKey_put_same (k := .string y.data.toList) h1.isMap trivial _ _⟩
  · rw [if_neg e]
    exact ⟨(has_put_other (fun h => e (str_inj (by injection h))) _).trans (h2 q hq).1, (atKey_put_other (fun h => e (str_inj (by injection h))) _ _).trans (h2 q hq).2⟩
theorem wpList_update_mto {w0 w : World} (hg : o.guard = none) (m x v : Operand) (t : TypeId) (hop : o.op = Op.mapUpdate t m x v) (k e : TypeId) (hk : P.underlying k = some .string) (ht : P.underlying t = some (.map k e)) (he : P.underlying e = some (.int .i64))
    (b n : Nat) (F : ByteArray → Option Nat) (hm : a.eval m = .map (some b)) (hown : MapTO P k e w b n F) (hn : n < 9223372036854775807) (y : ByteArray) (z : Nat) (hx : a.eval x = .string y) (hy : y.size ≤ 9223372036854775807) (hv : a.eval v = .int .i64 z) (hz : L64 z)
    (hold : Old w0 w) (hb : w0.heap.size ≤ b)
    (hK : ∀ w', MapTO P k e w' b (n + 1) (fun q => if q = y then some z else F q) → Old w0 w' → w.grownBy w' (some b) → wpList P ops Q rest (a.put o.dst undef) w') : wpList P ops Q (o :: rest) a w := by
  obtain ⟨D, h1, h2⟩ := hown
  refine wpList_mapUpdate_own w hg m x v t hop k e (string_keyed hk) ht _ b n D hm h1 (by simpa [maxLen] using hn) (.string y) (.int .i64 z) (.string y.data.toList) hx hv (keyStr hk hy) _ [] (plainElem_int he hz.wf) fun w' h3 h4 => ?_
  exact hK w' (mto_put h1 h2 h3) (hold.grown h4 (fun j hj => by cases hj; exact hb)) h4
theorem wpList_insert_mto {w0 w : World} (hg : o.guard = none) (m x v : Operand) (t : TypeId) (hop : o.op = Op.insert t m x v) (k e : TypeId) (hk : P.underlying k = some .string) (ht : P.underlying t = some (.map k e)) (he : P.underlying e = some (.int .i64))
    (b n : Nat) (F : ByteArray → Option Nat) (hm : a.eval m = .map (some b)) (hown : MapTO P k e w b n F) (hn : n < 9223372036854775807) (y : ByteArray) (z : Nat) (hx : a.eval x = .string y) (hy : y.size ≤ 9223372036854775807) (hv : a.eval v = .int .i64 z) (hz : L64 z)
    (hold : Old w0 w) (hb : w0.heap.size ≤ b)
    (hK : ∀ w', MapTO P k e w' b (n + 1) (fun q => if q = y then some z else F q) → Old w0 w' → w.grownBy w' (some b) → wpList P ops Q rest (a.put o.dst undef) w') : wpList P ops Q (o :: rest) a w := by
  obtain ⟨D, h1, h2⟩ := hown
  refine wpList_plain hg fun K' hK' => ?_
  obtain ⟨w', hrun, r1, r2⟩ := h1.update (string_keyed hk) ht (by simpa [maxLen] using hn) (keyStr hk hy) (plainElem_int he hz.wf)
  unfold Oper.wp
  simp [execOp, hop, hm, hx, hv, hrun, Result.andThen]
  exact hK' _ _ (hK w' (mto_put h1 h2 r1) (hold.grown r2 (fun j hj => by cases hj; exact hb)) r2)
end
end Go.Proofs.YtohngjkedhpikaaGreatDoor
/-
  KEYWORD, A: the memo of Folds; whether a term may be; the order of places; a mention's fault.
-/





namespace Go.Proofs.YtohngjkedhpikaaGreatDoor
open Go.RowKit Go.Maps
attribute [local go_sem] Old.refl Old.alloc Old.drew Old.setCell OldW.old

theorem zeroStrK {w : World} : (zeroValue 9).run Tryz.prog w = .ok (.string ⟨#[]⟩) w := Tryz.zeroValue9 w
theorem keyK {s : ByteArray} (h : s.size ≤ 9223372036854775807) : keyOf Tryz.prog 9 (Value.string s) = some (.string s.data.toList) := keyStr Tryz.underlying9 h
theorem str_kv {x y : ByteArray} (h : Value.string x = Value.string y) : x = y := by injection h
/-- the memo: Folds that were reckoned -/
structure Memo (w : World) (b n : Nat) (F : ByteArray → Option ByteArray) : Prop where
  mp : MapV Tryz.prog 9 Value.string w b n (fun x => (F x).map Value.string)
  says : ∀ x t, F x = some t → t = foldS x
theorem Memo.old {w w' : World} {b n : Nat} {F : ByteArray → Option ByteArray} (h : Memo w b n F) (o : Old w w') : Memo w' b n F := ⟨h.mp.old o, h.says⟩
theorem Memo.kept {w w' : World} {b n : Nat} {F : ByteArray → Option ByteArray} {row : Option Nat} (h : Memo w b n F) (hg : w.grownBy w' row) (hne : some b ≠ row) : Memo w' b n F := ⟨h.mp.kept hg hne, h.says⟩
theorem Memo.mono {w : World} {b n m : Nat} {F : ByteArray → Option ByteArray} (h : Memo w b n F) (hm : n ≤ m) : Memo w b m F := ⟨h.mp.mono hm, h.says⟩
theorem Memo.made (w : World) : Memo (w.alloc (.map #[] 0)) w.heap.size 0 (fun _ => none) := ⟨MapV.made _ _ _ _, fun _ _ h => by cases h⟩
/-- F' knows what F knows -/
def Knows (F F' : ByteArray → Option ByteArray) : Prop := ∀ x t, F x = some t → F' x = some t
theorem Knows.refl (F : ByteArray → Option ByteArray) : Knows F F := fun _ _ h => h
theorem Knows.trans {F G H : ByteArray → Option ByteArray} (h : Knows F G) (k : Knows G H) : Knows F H := fun x t e => k x t (h x t e)
theorem OldBut.of_grown {g : Nat} {w w' : World} (h : w.grownBy w' (some g)) : OldBut g w w' := KeptBut.grown h (Nat.le_refl _) fun _ e => .inr (Option.some.inj e).symm
set_option maxRecDepth 100000 in
/-- what was reckoned is told as it is -/
theorem of_known (s t : ByteArray) (w : World) (fb n : Nat) (F : ByteArray → Option ByteArray) (hM : Memo w fb n F) (hF : F s = some t) (hs : s.size ≤ 4194304) :
    Calls Tryz.prog 48 #[.map (some fb), .string s] w fun e w' => e = .returned (.string (foldS s)) ∧ Old w w' := by
  obtain rfl := hM.says s t hF
  have HM := Lib.hid hM
  have hk := Lib.hid (keyK (s := s) (by omega))
  have HF := Lib.hid (show (F s).map Value.string = some (.string (foldS s)) by rw [hF]; rfl)
  clear hM hF
  go_enter Tryz.func48, Tryz.ntmps48
  go_wp2_with (refine wpList_lookup_mv_ok rfl _ _ _ rfl 9 9 (string_keyed Tryz.underlying9) Value.string Tryz.underlying83 (.string ⟨#[]⟩) zeroStrK fb n _ rfl HM.out.mp s _ rfl hk.out (some (.string (foldS s))) HF.out ?_)
  go_ret
  exact ⟨rfl, Old.refl _⟩
set_option maxRecDepth 100000 in
set_option maxHeartbeats 800000 in
theorem of_any (s : ByteArray) (w0 w : World) (fb n : Nat) (F : ByteArray → Option ByteArray) (ho : Old w0 w) (hT : Tabs w0) (hM : Memo w fb n F) (hn : n < 4611686018427387904) (hs : s.size ≤ 4194304) :
    Calls Tryz.prog 48 #[.map (some fb), .string s] w fun e w' => e = .returned (.string (foldS s)) ∧ (∃ F', Memo w' fb (n + 1) F' ∧ F' s = some (foldS s) ∧ Knows F F') ∧ OldBut fb w w' := by
  cases hF : F s with
  | some t =>
    obtain rfl := hM.says s t hF
    refine (of_known s _ w fb n F hM hF hs).mono ?_
    rintro e w' ⟨rfl, o⟩
    exact ⟨rfl, ⟨F, (hM.old o).mono (by omega), hF, Knows.refl F⟩, (OldBut.refl fb w).old o⟩
  | none =>
    have HM := Lib.hid hM
    have hk := Lib.hid (keyK (s := s) (by omega))
    have HF := Lib.hid (show (F s).map Value.string = none by rw [hF]; rfl)
    have HC := Lib.hid (Fold_any s w (hT.old ho) hs)
    have HK := Lib.hid (show Knows F (fun q => if q = s then some (foldS s) else F q) from fun x t h => by
      by_cases e : x = s
      · subst e; rw [hF] at h; cases h
      · show (if x = s then some (foldS s) else F x) = some t
        rw [if_neg e]; exact h)
    have HP := Lib.hid (show (fun q => if q = s then some (Value.string (foldS s)) else (F q).map Value.string) = (fun x => ((fun q => if q = s then some (foldS s) else F q) x).map Value.string) from by
      funext q
      by_cases e : q = s
      · simp [e]
      · simp [e])
    clear hM hF
    go_enter Tryz.func48, Tryz.ntmps48
    go_wp2_with (first
      | (refine wpList_lookup_mv_ok rfl _ _ _ rfl 9 9 (string_keyed Tryz.underlying9) Value.string Tryz.underlying83 (.string ⟨#[]⟩) zeroStrK fb n _ rfl HM.out.mp s _ rfl hk.out none HF.out ?_)
      | (go_at_call 51; refine HC.out.mono ?_; rintro e w1 ⟨rfl, o1⟩)
      | (refine wpList_update_mv rfl _ _ _ _ rfl 9 9 (string_keyed Tryz.underlying9) Value.string (fun _ _ => str_kv) Tryz.underlying83 fb n _ rfl (HM.out.mp.old o1) (by omega) s _ rfl hk.out (.string (foldS s)) rfl ?_; intro w2 hm2 hg2))
    go_ret
    rw [HP.out] at hm2
    refine ⟨rfl, ⟨_, ⟨hm2, fun x t h => ?_⟩, if_pos rfl, HK.out⟩, ((OldBut.refl fb w).old o1).trans (OldBut.of_grown hg2)⟩
    change (if x = s then some (foldS s) else F x) = some t at h
    by_cases e : x = s
    · subst e; rw [if_pos rfl] at h; exact (Option.some.inj h).symm
    · rw [if_neg e] at h; exact HM.out.says x t h
theorem str_nilK {s : ByteArray} (h : ¬ s = noB) : s.toList.isEmpty = false := by
  rw [ByteArray.toList_eq, List.isEmpty_eq_false_iff]
  intro e
  exact h (ByteArray.ext (Array.toList_inj.1 e))
set_option maxRecDepth 100000 in
set_option maxHeartbeats 800000 in
/-- whether a term may be -/
theorem mayTerm_any (s : ByteArray) (w : World) (hT : Tabs w) (hs : s.size ≤ 4194304) :
    Calls Tryz.prog 84 #[.string s] w fun e w' => e = .returned (.bool (mayT s)) ∧ Old w w' := by
  have HP := Lib.hid (Plain_any s w hT)
  have HF := Lib.hid (fun V (o : Old w V) => Fold_any s V (hT.old o) hs)
  have HM : Hid (mayT s = (decide (¬ s = noB) && (decide (s.size ≤ 64) && ((plainAt s.data.toList 0).2 && decide (¬ foldS s = noB))))) := Lib.hid rfl
  generalize plainAt s.data.toList 0 = r at *
  obtain ⟨r1, r2⟩ := r
  generalize hf : foldS s = f at *
  generalize mayT s = M at *
  clear hf
  dsimp only at *
  by_cases h1 : s = noB
  · have hM : M = false := by rw [HM.out, h1]; simp
    obtain rfl : s = ⟨#[]⟩ := h1
    subst hM
    clear HM HF
    go_enter Tryz.func84, Tryz.ntmps84
    go_wp2_with fail
    refine HP.out.mono ?_
    rintro e w1 ⟨rfl, o1⟩
    go_wp2_with fail
    go_ret
    exact ⟨rfl, o1⟩
  · have hn := str_nilK h1
    by_cases h2 : s.size ≤ 64
    · have hi : (s.size : Int) ≤ 64 := by omega
      cases r2 with
      | false =>
        have hM : M = false := by rw [HM.out]; simp
        subst hM
        clear HM HF h1 h2
        go_enter Tryz.func84, Tryz.ntmps84
        go_wp2_with fail
        refine HP.out.mono ?_
        rintro e w1 ⟨rfl, o1⟩
        go_wp2_with fail
        go_ret
        exact ⟨rfl, o1⟩
      | true =>
        by_cases h3 : f = noB
        · have hM : M = false := by rw [HM.out, h3]; simp
          obtain rfl : f = ⟨#[]⟩ := h3
          subst hM
          clear HM h1 h2
          go_enter Tryz.func84, Tryz.ntmps84
          go_wp2_with fail
          refine HP.out.mono ?_
          rintro e w1 ⟨rfl, o1⟩
          go_wp2_with fail
          refine (HF.out _ o1).mono ?_
          rintro e w2 ⟨rfl, o2⟩
          go_wp2_with fail
          go_ret
          exact ⟨rfl, o1.trans o2⟩
        · have hM : M = true := by rw [HM.out]; simp [h1, h2, h3]
          have hn3 := str_nilK h3
          subst hM
          clear HM h1 h2 h3
          go_enter Tryz.func84, Tryz.ntmps84
          go_wp2_with fail
          refine HP.out.mono ?_
          rintro e w1 ⟨rfl, o1⟩
          go_wp2_with fail
          refine (HF.out _ o1).mono ?_
          rintro e w2 ⟨rfl, o2⟩
          go_wp2_with fail
          go_ret
          exact ⟨rfl, o1.trans o2⟩
    · have hi : ¬ (s.size : Int) ≤ 64 := by omega
      have hM : M = false := by rw [HM.out]; simp [h2]
      subst hM
      clear HM HF h1 h2
      go_enter Tryz.func84, Tryz.ntmps84
      go_wp2_with fail
      refine HP.out.mono ?_
      rintro e w1 ⟨rfl, o1⟩
      go_wp2_with fail
      go_ret
      exact ⟨rfl, o1⟩
set_option maxRecDepth 100000 in
theorem maySub_any (s : ByteArray) (w : World) (hT : Tabs w) (hs : s.size ≤ 4194304) :
    Calls Tryz.prog 86 #[.string s] w fun e w' => e = .returned (.bool (decide (s = noB) || mayT s)) ∧ Old w w' := by
  have HP := Lib.hid (mayTerm_any s w hT hs)
  generalize mayT s = M at *
  by_cases h1 : s = noB
  · have hM : (decide (s = noB) || M) = true := by rw [h1]; simp
    rw [hM]
    obtain rfl : s = ⟨#[]⟩ := h1
    clear HP hM
    go_enter Tryz.func86, Tryz.ntmps86
    go_wp2_with fail
    go_ret
    exact ⟨rfl, Old.refl _⟩
  · have hM : (decide (s = noB) || M) = M := by simp [h1]
    rw [hM]
    have hn := str_nilK h1
    clear hM h1
    go_enter Tryz.func86, Tryz.ntmps86
    go_wp2_with fail
    refine HP.out.mono ?_
    rintro e w1 ⟨rfl, o1⟩
    go_wp2_with fail
    go_ret
    exact ⟨rfl, o1⟩
/-- how two places stand -/
theorem order_any (p q : Pl) (w : World) (hT : Tabs w) (h1 : p.1.size ≤ 4194304) (h2 : p.2.size ≤ 4194304) (h3 : q.1.size ≤ 4194304) (h4 : q.2.size ≤ 4194304) :
    Calls Tryz.prog 44 #[.agg #[.string p.1, .string p.2], .agg #[.string q.1, .string q.2]] w fun e w' => e = .returned (.int .i64 (cmpP p q)) ∧ Old w w' := by
  obtain ⟨a, b⟩ := p
  obtain ⟨c, d⟩ := q
  dsimp only at *
  have HA := Lib.hid (fun V (o : Old w V) => Compare_any a c V (hT.old o) h1 h3)
  have HB := Lib.hid (fun V (o : Old w V) => Compare_any b d V (hT.old o) h2 h4)
  have HC : Hid (cmpP (a, b) (c, d) = if compareT a c = 0 then compareT b d else compareT a c) := Lib.hid rfl
  generalize compareT a c = x at *
  generalize compareT b d = y at *
  generalize cmpP (a, b) (c, d) = z at *
  have hcell : Hid (∀ V, Old ((w.alloc (.cells #[.string a, .string b] 89)).alloc (.cells #[.string c, .string d] 89)) V → V.cell? ⟨w.heap.size, 0, none⟩ = some (.string a) ∧ V.cell? ⟨w.heap.size, 1, none⟩ = some (.string b) ∧ V.cell? ⟨w.heap.size + 1, 0, none⟩ = some (.string c) ∧ V.cell? ⟨w.heap.size + 1, 1, none⟩ = some (.string d)) := by
    refine Lib.hid fun V o => ⟨o.cell ?_, o.cell ?_, o.cell ?_, o.cell ?_⟩ <;> simp [go_sem]
  have o0 : Old w ((w.alloc (.cells #[.string a, .string b] 89)).alloc (.cells #[.string c, .string d] 89)) := ((Old.refl w).alloc _).alloc _
  go_enter Tryz.func44, Tryz.ntmps44
  go_upto_region 1 with fail
  have d0 := fun V o => (hcell.out V o).1
  have d1 := fun V o => (hcell.out V o).2.1
  have d2 := fun V o => (hcell.out V o).2.2.1
  have d3 := fun V o => (hcell.out V o).2.2.2
  clear hcell
  generalize (w.alloc (.cells #[.string a, .string b] 89)).alloc (.cells #[.string c, .string d] 89) = w0 at *
  by_cases h : x = 0
  · obtain rfl : z = y := by rw [HC.out, if_pos h]
    subst h
    clear HC
    go_wp2_with fail
    refine (HA.out _ o0).mono ?_
    rintro e w1 ⟨rfl, o1⟩
    go_wp2_with fail
    refine (HB.out _ (o0.trans o1)).mono ?_
    rintro e w2 ⟨rfl, o2⟩
    go_wp2_with fail
    go_ret
    exact ⟨rfl, (o0.trans o1).trans o2⟩
  · obtain rfl : z = x := by rw [HC.out, if_neg h]
    have hne : (z != 0) = true := by simpa using h
    clear HC h
    go_wp2_with fail
    refine (HA.out _ o0).mono ?_
    rintro e w1 ⟨rfl, o1⟩
    go_wp2_with fail
    go_ret
    exact ⟨rfl, o0.trans o1⟩
/-- a mention's fault -/
theorem wrong_any (m : Mn) (code : Int) (word : ByteArray) (w : World) (hc : ¬ code = 0) :
    Calls Tryz.prog 85 #[.agg #[.int .i64 m.topic, .int .i64 m.src, .int .i64 m.line, .string m.term, .string m.sub, .string m.aim, .int .i64 m.see], .int .i64 code, .string word] w fun e w' => (∃ v, e = .returned v ∧ IsErr w' v code m.src m.line 0 word) ∧ Old w w' := by
  have HN := Lib.hid (fun V => FNew_any code m.src m.line 0 word V hc)
  obtain ⟨t, i, l, a, b, c, k⟩ := m
  dsimp only at *
  go_enter Tryz.func85, Tryz.ntmps85
  go_wp2_with fail
  refine (HN.out _).mono ?_
  rintro e w1 ⟨⟨v, rfl, hE⟩, o1⟩
  have o2 := ((Old.refl w).alloc (.cells #[.int .i64 t, .int .i64 i, .int .i64 l, .string a, .string b, .string c, .int .i64 k] 128)).trans o1
  go_wp2_with fail
  go_ret
  exact ⟨⟨_, rfl, hE⟩, o2⟩
end Go.Proofs.YtohngjkedhpikaaGreatDoor
