/-
  A TABLE OF NAMES, in plain words: what New says, what is found, the order, what begins so, what is near.
-/
import Derived.Test.YtpifkinlaicliaaGreatDoorZLev
import Derived.Test.YtpifkinlaicliaaGreatDoorZTextOrder
import Derived.Test.YtpifkinlaicliaaGreatDoorZBase
import Derived.Maps.OwnOps
import Derived.Maps.OwnSet
namespace Go.Proofs.YtpifkinlaicliaaGreatDoor
open Go.RowKit

abbrev noS : ByteArray := ⟨#[]⟩
/-! ### finding -/
theorem nodup_inj {α : Type} {l : List α} (h : l.Nodup) {i j : Nat} (hi : i < l.length) (hj : j < l.length) (e : l[i] = l[j]) : i = j := by
  rcases Nat.lt_trichotomy i j with c | c | c
  · exact absurd e (List.pairwise_iff_getElem.1 h i j hi hj c)
  · exact c
  · exact absurd e.symm (List.pairwise_iff_getElem.1 h j i hj hi c)
def findN (l : List ByteArray) (q : ByteArray) : Option Nat := l.findIdx? fun x => decide (x = q)
theorem findN_none {l : List ByteArray} {q : ByteArray} : findN l q = none ↔ ¬ q ∈ l := by
  unfold findN
  rw [List.findIdx?_eq_none_iff]
  constructor
  · intro h hq; have := h q hq; simp at this
  · intro h x hx; rw [decide_eq_false_iff_not]; intro e; exact h (e ▸ hx)
theorem findN_some {l : List ByteArray} {q : ByteArray} {k : Nat} (h : findN l q = some k) : k < l.length ∧ l.getD k noS = q := by
  unfold findN at h
  rw [List.findIdx?_eq_some_iff_getElem] at h
  obtain ⟨hk, hp, _⟩ := h
  exact ⟨hk, by simpa [List.getD, hk] using hp⟩
theorem findN_snoc {l : List ByteArray} {n : ByteArray} (h : ¬ n ∈ l) : findN (l ++ [n]) = fun q => if q = n then some l.length else findN l q := by
  funext q
  unfold findN
  rw [List.findIdx?_append]
  by_cases e : q = n
  · subst e
    have h1 : l.findIdx? (fun x => decide (x = q)) = none := findN_none.2 h
    rw [h1, if_pos rfl]
    simp [List.findIdx?_cons]
  · rw [if_neg e]
    cases l.findIdx? (fun x => decide (x = q)) with
    | some k => rfl
    | none =>
      have : ¬ n = q := fun h => e h.symm
      simp [List.findIdx?_cons, this]
theorem findN_at {l : List ByteArray} (hn : l.Nodup) {k : Nat} (hk : k < l.length) : findN l (l.getD k noS) = some k := by
  have e : l.getD k noS = l[k] := by simp [List.getD, hk]
  cases h : findN l (l.getD k noS) with
  | none => exact absurd (by rw [e]; exact List.getElem_mem hk) (findN_none.1 h)
  | some j =>
    obtain ⟨hj, h2⟩ := findN_some h
    have e2 : l.getD j noS = l[j] := by simp [List.getD, hj]
    rw [e, e2] at h2
    rw [nodup_inj hn hj hk h2]
/-- a text's Norm -/
def nrm (s : ByteArray) : ByteArray := (normR s).1
/-- New from place i on: the place, the error's number -/
def newAt : List ByteArray → List ByteArray → Nat → Nat × Int
  | [], _, _ => (0, 0)
  | s :: t, seen, i => if (normR s).2 = 0 then (if findN seen (nrm s) = none then newAt t (seen ++ [nrm s]) (i + 1) else (i, 71)) else (i, (normR s).2)
def newR (l : List ByteArray) : Nat × Int := if 1000 < l.length then (0, 2) else newAt l [] 0
theorem newAt_err : ∀ (t seen : List ByteArray) (i : Nat), (newAt t seen i).2 = 0 ∨ (newAt t seen i).2 = 2 ∨ (newAt t seen i).2 = 70 ∨ (newAt t seen i).2 = 71
  | [], _, _ => .inl rfl
  | s :: t, seen, i => by
    unfold newAt
    have h := normR_err s
    split
    · split
      · exact newAt_err t _ _
      · exact .inr (.inr (.inr rfl))
    · rcases h with h | h | h
      · exact .inl h
      · exact .inr (.inl h)
      · exact .inr (.inr (.inl h))
theorem newR_err (l : List ByteArray) : (newR l).2 = 0 ∨ (newR l).2 = 2 ∨ (newR l).2 = 70 ∨ (newR l).2 = 71 := by
  unfold newR
  split
  · exact .inr (.inl rfl)
  · exact newAt_err _ _ _
theorem newAt_place : ∀ (t seen : List ByteArray) (i : Nat), (newAt t seen i).1 ≤ i + t.length
  | [], _, _ => by simp [newAt]
  | s :: t, seen, i => by
    unfold newAt
    split
    · split
      · have := newAt_place t (seen ++ [nrm s]) (i + 1); rw [List.length_cons]; omega
      · simp
    · simp
theorem newR_place (l : List ByteArray) : (newR l).1 ≤ 1000 := by
  unfold newR
  split
  · exact Nat.zero_le _
  · have := newAt_place l [] 0; omega
theorem newAt_ok : ∀ {t seen : List ByteArray} {i : Nat}, (newAt t seen i).2 = 0 → seen.Nodup → (∀ s ∈ t, (normR s).2 = 0) ∧ (seen ++ t.map nrm).Nodup
  | [], _, _, _, hs => ⟨by simp, by simpa using hs⟩
  | s :: t, seen, i, h, hs => by
    unfold newAt at h
    by_cases h1 : (normR s).2 = 0
    · rw [if_pos h1] at h
      by_cases h2 : nrm s ∈ seen
      · rw [if_neg (fun e => findN_none.1 e h2)] at h; simp at h
      · rw [if_pos (findN_none.2 h2)] at h
        have := newAt_ok h (by rw [List.nodup_append]; exact ⟨hs, by simp, fun a ha b hb => by rw [List.mem_singleton] at hb; subst hb; exact fun e => h2 (e ▸ ha)⟩)
        refine ⟨fun x hx => ?_, by simpa using this.2⟩
        rcases List.mem_cons.1 hx with rfl | hx
        · exact h1
        · exact this.1 x hx
    · rw [if_neg h1] at h; exact absurd h h1
structure Named (l : List ByteArray) : Prop where
  len : l.length ≤ 1000
  ok : ∀ s ∈ l, (normR s).2 = 0
  nodup : (l.map nrm).Nodup
theorem named_of {l : List ByteArray} (h : (newR l).2 = 0) : Named l := by
  unfold newR at h
  by_cases h1 : 1000 < l.length
  · rw [if_pos h1] at h; simp at h
  · rw [if_neg h1] at h
    have := newAt_ok h List.nodup_nil
    exact ⟨by omega, this.1, by simpa using this.2⟩
theorem newAt_zero : ∀ {t seen : List ByteArray} {i : Nat}, (newAt t seen i).2 = 0 → (newAt t seen i).1 = 0
  | [], _, _, _ => rfl
  | s :: t, seen, i, h => by
    unfold newAt at h ⊢
    by_cases h1 : (normR s).2 = 0
    · rw [if_pos h1] at h ⊢
      by_cases h2 : nrm s ∈ seen
      · rw [if_neg (fun e => findN_none.1 e h2)] at h; simp at h
      · rw [if_pos (findN_none.2 h2)] at h ⊢; exact newAt_zero h
    · rw [if_neg h1] at h; exact absurd h h1
theorem newR_zero {l : List ByteArray} (h : (newR l).2 = 0) : newR l = (0, 0) := by
  have h1 : (newR l).1 = 0 := by
    unfold newR at h ⊢
    by_cases h1 : 1000 < l.length
    · rw [if_pos h1]
    · rw [if_neg h1] at h ⊢; exact newAt_zero h
  exact Prod.ext h1 h
theorem newAt_bad {s : ByteArray} {t seen : List ByteArray} {i : Nat} (h : ¬ (normR s).2 = 0) : newAt (s :: t) seen i = (i, (normR s).2) := by rw [newAt, if_neg h]
theorem newAt_twice {s : ByteArray} {t seen : List ByteArray} {i : Nat} (h : (normR s).2 = 0) (h2 : nrm s ∈ seen) : newAt (s :: t) seen i = (i, 71) := by rw [newAt, if_pos h, if_neg (fun e => findN_none.1 e h2)]
theorem newAt_on {s : ByteArray} {t seen : List ByteArray} {i : Nat} (h : (normR s).2 = 0) (h2 : ¬ nrm s ∈ seen) : newAt (s :: t) seen i = newAt t (seen ++ [nrm s]) (i + 1) := by rw [newAt, if_pos h, if_pos (findN_none.2 h2)]

def findR (l : List ByteArray) (s : ByteArray) : Option Nat := if (normR s).2 = 0 then findN (l.map nrm) (nrm s) else none

/-! ### in order -/
def nmAt (l : List ByteArray) (i : Nat) : ByteArray := l.getD i noS
def cN (l : List ByteArray) (i j : Nat) : Int := compareT (nmAt l i) (nmAt l j)
theorem cN_ord (l : List ByteArray) : OrdC (cN l) := ⟨fun _ _ => compareT_anti _ _, fun _ _ _ h1 h2 => compareT_trans h1 h2⟩
def sortedL (l : List ByteArray) : List Nat := sortTo (cN l) l.length
theorem Named.inj {l : List ByteArray} (h : Named l) : ∀ i j, i < l.length → j < l.length → cN l i j = 0 → i = j := by
  intro i j hi hj he
  have e := compareT_zero.1 he
  have e1 : nmAt l i = l[i] := by simp [nmAt, List.getD, hi]
  have e2 : nmAt l j = l[j] := by simp [nmAt, List.getD, hj]
  rw [e1, e2] at e
  have h1 : (l.map nrm)[i]'(by simpa using hi) = (l.map nrm)[j]'(by simpa using hj) := by rw [List.getElem_map, List.getElem_map, e]
  exact nodup_inj h.nodup (by simpa using hi) (by simpa using hj) h1
theorem Named.at {l : List ByteArray} (h : Named l) {i : Nat} (hi : i < l.length) : (normR (nmAt l i)).2 = 0 ∧ (nmAt l i).size ≤ 64 ∧ (nrm (nmAt l i)).size ≤ 320 := by
  have e1 : nmAt l i = l[i] := by simp [nmAt, List.getD, hi]
  have h1 := h.ok _ (List.getElem_mem hi)
  rw [e1]
  exact ⟨h1, (normR_ok h1).2.2.1, normR_size _⟩
theorem sortedL_length (l : List ByteArray) : (sortedL l).length = l.length := sortTo_length _
theorem sortedL_lt {l : List ByteArray} {i : Nat} (h : i ∈ sortedL l) : i < l.length := sortTo_mem.1 h

/-! ### beginning so; near -/
def begins (s p : ByteArray) : Bool := Lib.hasPrefix s.data.toList p.data.toList
def prefixL (l : List ByteArray) (s : ByteArray) : List Nat :=
  if (plainAt s.data.toList 0).2 = false then [] else (sortedL l).filter fun i => begins (nrm (nmAt l i)) (foldS s)
def apartS (a b : ByteArray) : Nat := levL (runesI a) (runesI b)
def nearL (l : List ByteArray) (s : ByteArray) : List Nat :=
  if (normR s).2 = 0 then (nearF (fun i => apartS (nrm s) (nrm (nmAt l i))) (sortedL l)).2 else []
theorem prefixL_length (l : List ByteArray) (s : ByteArray) : (prefixL l s).length ≤ l.length := by
  unfold prefixL
  split
  · exact Nat.zero_le _
  · exact Nat.le_trans (List.length_filter_le _ _) (by rw [sortedL_length]; exact Nat.le_refl _)
theorem nearL_length (l : List ByteArray) (s : ByteArray) : (nearL l s).length ≤ l.length := by
  unfold nearL
  split
  · rw [nearF_eq]; exact Nat.le_trans (List.length_filter_le _ _) (by rw [sortedL_length]; exact Nat.le_refl _)
  · exact Nat.zero_le _
end Go.Proofs.YtpifkinlaicliaaGreatDoor
/-
  THE CALL's OWN MAP map[int]int, READ AS A FUNCTION TO SOMETHING OR NOTHING: over no program.
-/



namespace Go.Proofs.YtpifkinlaicliaaGreatDoor
open Go.RowKit Go.Maps

def L64 (x : Int) : Prop := -9223372036854775808 ≤ x ∧ x ≤ 9223372036854775807
theorem L64.wf {x : Int} (h : L64 x) : (Lit.int .i64 x).wf = true := WalkArith.wf_i64 h
def optN : Option Nat → Int
  | none => 0
  | some d => d
/-- block b: a map of at most n entries; the key x holds F x (none: it stands there not) -/
def MapIO (P : Program) (K E : TypeId) (w : World) (b n : Nat) (F : Int → Option Nat) : Prop :=
  ∃ D : DataW Unit, w.ownsMap P K (plainElem P E) b n D ∧ ∀ x, L64 x → Maps.has D (.int .i64 x) = (F x).isSome ∧ D.atKey (.int .i64 x) (.lit (.int .i64 0)) = .lit (.int .i64 (optN (F x)))
theorem MapIO.made (P : Program) (K E : TypeId) (w : World) : MapIO P K E (w.alloc (.map #[] 0)) w.heap.size 0 (fun _ => none) :=
  ⟨.map [], World.ownsMap_made _ _ _ _, fun _ _ => ⟨rfl, rfl⟩⟩
theorem MapIO.old {P : Program} {K E : TypeId} {w w' : World} {b n : Nat} {F : Int → Option Nat} (h : MapIO P K E w b n F) (o : Old w w') : MapIO P K E w' b n F := by
  obtain ⟨D, h1, h2⟩ := h
  exact ⟨D, h1.kept (Old.grownBy o none) (by simp), h2⟩
theorem MapIO.kept {P : Program} {K E : TypeId} {w w' : World} {b n : Nat} {F : Int → Option Nat} {row : Option Nat} (h : MapIO P K E w b n F) (hg : w.grownBy w' row) (hne : some b ≠ row) : MapIO P K E w' b n F := by
  obtain ⟨D, h1, h2⟩ := h
  exact ⟨D, h1.kept hg hne, h2⟩
theorem MapIO.lt {P : Program} {K E : TypeId} {w : World} {b n : Nat} {F : Int → Option Nat} (h : MapIO P K E w b n F) : b < w.heap.size := by
  obtain ⟨D, h1, _⟩ := h
  exact h1.lt
section
variable {P : Program} {ops : Array Oper} {rest : List Oper} {o : Oper} {a : Act} {Q : Exit → Act → World → Prop}
theorem wpList_lookup_mio {w : World} (hg : o.guard = none) (m x : Operand) (t : TypeId) (hop : o.op = Op.lookup t m x false) (k e : TypeId) (hk : P.underlying k = some (.int .i64)) (ht : P.underlying t = some (.map k e)) (he : P.underlying e = some (.int .i64))
    (hz : ∀ w, (zeroValue e).run P w = .ok (.int .i64 0) w) (b n : Nat) (F : Int → Option Nat) (hm : a.eval m = .map (some b)) (hown : MapIO P k e w b n F) (y : Int) (hx : a.eval x = .int .i64 y) (hy : L64 y)
    (z : Option Nat) (hF : F y = z) (hK : wpList P ops Q rest (a.put o.dst (.int .i64 (optN z))) w) : wpList P ops Q (o :: rest) a w := by
  subst hF
  obtain ⟨D, h1, h2⟩ := hown
  refine wpList_lookup_own_int w hg m x t hop k e .i64 (int_keyed hk) ht he (hz w) b n D hm h1 (.int .i64 y) (.int .i64 y) hx (keyOf_int_mk hk hy.wf) fun c hat _ => ?_
  rw [(h2 y hy).2] at hat
  obtain rfl : optN (F y) = c := by simpa using hat
  exact hK
theorem wpList_lookup_mio_ok {w : World} (hg : o.guard = none) (m x : Operand) (t : TypeId) (hop : o.op = Op.lookup t m x true) (k e : TypeId) (hk : P.underlying k = some (.int .i64)) (ht : P.underlying t = some (.map k e)) (he : P.underlying e = some (.int .i64))
    (hz : ∀ w, (zeroValue e).run P w = .ok (.int .i64 0) w) (b n : Nat) (F : Int → Option Nat) (hm : a.eval m = .map (some b)) (hown : MapIO P k e w b n F) (y : Int) (hx : a.eval x = .int .i64 y) (hy : L64 y)
    (z : Option Nat) (hF : F y = z) (hK : wpList P ops Q rest (a.put o.dst (.tuple #[.int .i64 (optN z), .bool z.isSome])) w) : wpList P ops Q (o :: rest) a w := by
  subst hF
  obtain ⟨D, h1, h2⟩ := hown
  refine wpList_lookup_own_ok_int w hg m x t hop k e .i64 (int_keyed hk) ht he (hz w) b n D hm h1 (.int .i64 y) (.int .i64 y) hx (keyOf_int_mk hk hy.wf) fun c hat _ => ?_
  rw [(h2 y hy).2] at hat
  obtain rfl : optN (F y) = c := by simpa using hat
  rw [(h2 y hy).1]
  exact hK
theorem mio_put {w w' : World} {k e : TypeId} {b n : Nat} {D : DataW Unit} {F : Int → Option Nat} {y : Int} {z : Nat} (h1 : w.ownsMap P k (plainElem P e) b n D) (h2 : ∀ x, L64 x → Maps.has D (.int .i64 x) = (F x).isSome ∧ D.atKey (.int .i64 x) (.lit (.int .i64 0)) = .lit (.int .i64 (optN (F x))))
    (h3 : w'.ownsMap P k (plainElem P e) b (n + 1) (D.put (.int .i64 y) (.lit (.int .i64 z)))) : MapIO P k e w' b (n + 1) (fun q => if q = y then some z else F q) := by
  refine ⟨_, h3, fun q hq => ?_⟩
  dsimp only
  by_cases e : q = y
  · rw [if_pos e, e]
    exact ⟨has_put_same (k := .int .i64 y) h1.isMap trivial _, atKey_put_same (k := .int .i64 y) h1.isMap trivial _ _⟩
  · rw [if_neg e]
    exact ⟨(has_put_other (by simpa using e) _).trans (h2 q hq).1, (atKey_put_other (by simpa using e) _ _).trans (h2 q hq).2⟩
theorem wpList_update_mio {w0 w : World} (hg : o.guard = none) (m x v : Operand) (t : TypeId) (hop : o.op = Op.mapUpdate t m x v) (k e : TypeId) (hk : P.underlying k = some (.int .i64)) (ht : P.underlying t = some (.map k e)) (he : P.underlying e = some (.int .i64))
    (b n : Nat) (F : Int → Option Nat) (hm : a.eval m = .map (some b)) (hown : MapIO P k e w b n F) (hn : n < 9223372036854775807) (y : Int) (z : Nat) (hx : a.eval x = .int .i64 y) (hy : L64 y) (hv : a.eval v = .int .i64 z) (hz : L64 z)
    (hold : Old w0 w) (hb : w0.heap.size ≤ b)
    (hK : ∀ w', MapIO P k e w' b (n + 1) (fun q => if q = y then some z else F q) → Old w0 w' → w.grownBy w' (some b) → wpList P ops Q rest (a.put o.dst undef) w') : wpList P ops Q (o :: rest) a w := by
  obtain ⟨D, h1, h2⟩ := hown
  refine wpList_mapUpdate_own w hg m x v t hop k e (int_keyed hk) ht _ b n D hm h1 (by simpa [maxLen] using hn) (.int .i64 y) (.int .i64 z) (.int .i64 y) hx hv (keyOf_int_mk hk hy.wf) _ [] (plainElem_int he hz.wf) fun w' h3 h4 => ?_
  exact hK w' (mio_put h1 h2 h3) (hold.grown h4 (fun j hj => by cases hj; exact hb)) h4
theorem wpList_insert_mio {w0 w : World} (hg : o.guard = none) (m x v : Operand) (t : TypeId) (hop : o.op = Op.insert t m x v) (k e : TypeId) (hk : P.underlying k = some (.int .i64)) (ht : P.underlying t = some (.map k e)) (he : P.underlying e = some (.int .i64))
    (b n : Nat) (F : Int → Option Nat) (hm : a.eval m = .map (some b)) (hown : MapIO P k e w b n F) (hn : n < 9223372036854775807) (y : Int) (z : Nat) (hx : a.eval x = .int .i64 y) (hy : L64 y) (hv : a.eval v = .int .i64 z) (hz : L64 z)
    (hold : Old w0 w) (hb : w0.heap.size ≤ b)
    (hK : ∀ w', MapIO P k e w' b (n + 1) (fun q => if q = y then some z else F q) → Old w0 w' → w.grownBy w' (some b) → wpList P ops Q rest (a.put o.dst undef) w') : wpList P ops Q (o :: rest) a w := by
  obtain ⟨D, h1, h2⟩ := hown
  refine wpList_plain hg fun K' hK' => ?_
  obtain ⟨w', hrun, r1, r2⟩ := h1.update (int_keyed hk) ht (by simpa [maxLen] using hn) (keyOf_int_mk hk hy.wf) (plainElem_int he hz.wf)
  unfold Oper.wp
  simp [execOp, hop, hm, hx, hv, hrun, Result.andThen]
  exact hK' _ _ (hK w' (mio_put h1 h2 r1) (hold.grown r2 (fun j hj => by cases hj; exact hb)) r2)
end
end Go.Proofs.YtpifkinlaicliaaGreatDoor
/-
  THE CALL's OWN MAP map[string]int, READ AS A FUNCTION TO SOMETHING OR NOTHING: over no program.
-/



namespace Go.Proofs.YtpifkinlaicliaaGreatDoor
open Go.RowKit Go.Maps

theorem keyStr {P : Program} {k : TypeId} (hk : P.underlying k = some .string) {x : ByteArray} (h : x.size ≤ 9223372036854775807) : keyOf P k (.string x) = some (.string x.data.toList) := by
  have h2 : x.size ≤ maxLen := by simpa [maxLen] using h
  simp [keyOf, hk, mapKey, h2]
theorem str_inj {x y : ByteArray} (h : x.data.toList = y.data.toList) : x = y := ByteArray.ext (Array.toList_inj.1 h)
/-- block b: a map of at most n entries; the key x holds F x (none: it stands there not) -/
def MapTO (P : Program) (K E : TypeId) (w : World) (b n : Nat) (F : ByteArray → Option Nat) : Prop :=
  ∃ D : DataW Unit, w.ownsMap P K (plainElem P E) b n D ∧ ∀ x : ByteArray, x.size ≤ 9223372036854775807 → Maps.has D (.string x.data.toList) = (F x).isSome ∧ D.atKey (.string x.data.toList) (.lit (.int .i64 0)) = .lit (.int .i64 (optN (F x)))
theorem MapTO.made (P : Program) (K E : TypeId) (w : World) : MapTO P K E (w.alloc (.map #[] 0)) w.heap.size 0 (fun _ => none) :=
  ⟨.map [], World.ownsMap_made _ _ _ _, fun _ _ => ⟨rfl, rfl⟩⟩
theorem MapTO.old {P : Program} {K E : TypeId} {w w' : World} {b n : Nat} {F : ByteArray → Option Nat} (h : MapTO P K E w b n F) (o : Old w w') : MapTO P K E w' b n F := by
  obtain ⟨D, h1, h2⟩ := h
  exact ⟨D, h1.kept (Old.grownBy o none) (by simp), h2⟩
theorem MapTO.kept {P : Program} {K E : TypeId} {w w' : World} {b n : Nat} {F : ByteArray → Option Nat} {row : Option Nat} (h : MapTO P K E w b n F) (hg : w.grownBy w' row) (hne : some b ≠ row) : MapTO P K E w' b n F := by
  obtain ⟨D, h1, h2⟩ := h
  exact ⟨D, h1.kept hg hne, h2⟩
theorem MapTO.lt {P : Program} {K E : TypeId} {w : World} {b n : Nat} {F : ByteArray → Option Nat} (h : MapTO P K E w b n F) : b < w.heap.size := by
  obtain ⟨D, h1, _⟩ := h
  exact h1.lt
section
variable {P : Program} {ops : Array Oper} {rest : List Oper} {o : Oper} {a : Act} {Q : Exit → Act → World → Prop}
theorem wpList_lookup_mto {w : World} (hg : o.guard = none) (m x : Operand) (t : TypeId) (hop : o.op = Op.lookup t m x false) (k e : TypeId) (hk : P.underlying k = some .string) (ht : P.underlying t = some (.map k e)) (he : P.underlying e = some (.int .i64))
    (hz : ∀ w, (zeroValue e).run P w = .ok (.int .i64 0) w) (b n : Nat) (F : ByteArray → Option Nat) (hm : a.eval m = .map (some b)) (hown : MapTO P k e w b n F) (y : ByteArray) (hx : a.eval x = .string y) (hy : y.size ≤ 9223372036854775807)
    (z : Option Nat) (hF : F y = z) (hK : wpList P ops Q rest (a.put o.dst (.int .i64 (optN z))) w) : wpList P ops Q (o :: rest) a w := by
  subst hF
  obtain ⟨D, h1, h2⟩ := hown
  refine wpList_lookup_own_int w hg m x t hop k e .i64 (string_keyed hk) ht he (hz w) b n D hm h1 (.string y) (.string y.data.toList) hx (keyStr hk hy) fun c hat _ => ?_
  rw [(h2 y hy).2] at hat
  obtain rfl : optN (F y) = c := by simpa using hat
  exact hK
theorem wpList_lookup_mto_ok {w : World} (hg : o.guard = none) (m x : Operand) (t : TypeId) (hop : o.op = Op.lookup t m x true) (k e : TypeId) (hk : P.underlying k = some .string) (ht : P.underlying t = some (.map k e)) (he : P.underlying e = some (.int .i64))
    (hz : ∀ w, (zeroValue e).run P w = .ok (.int .i64 0) w) (b n : Nat) (F : ByteArray → Option Nat) (hm : a.eval m = .map (some b)) (hown : MapTO P k e w b n F) (y : ByteArray) (hx : a.eval x = .string y) (hy : y.size ≤ 9223372036854775807)
    (z : Option Nat) (hF : F y = z) (hK : wpList P ops Q rest (a.put o.dst (.tuple #[.int .i64 (optN z), .bool z.isSome])) w) : wpList P ops Q (o :: rest) a w := by
  subst hF
  obtain ⟨D, h1, h2⟩ := hown
  refine wpList_lookup_own_ok_int w hg m x t hop k e .i64 (string_keyed hk) ht he (hz w) b n D hm h1 (.string y) (.string y.data.toList) hx (keyStr hk hy) fun c hat _ => ?_
  rw [(h2 y hy).2] at hat
  obtain rfl : optN (F y) = c := by simpa using hat
  rw [(h2 y hy).1]
  exact hK
theorem mto_put {w w' : World} {k e : TypeId} {b n : Nat} {D : DataW Unit} {F : ByteArray → Option Nat} {y : ByteArray} {z : Nat} (h1 : w.ownsMap P k (plainElem P e) b n D) (h2 : ∀ x : ByteArray, x.size ≤ 9223372036854775807 → Maps.has D (.string x.data.toList) = (F x).isSome ∧ D.atKey (.string x.data.toList) (.lit (.int .i64 0)) = .lit (.int .i64 (optN (F x))))
    (h3 : w'.ownsMap P k (plainElem P e) b (n + 1) (D.put (.string y.data.toList) (.lit (.int .i64 z)))) : MapTO P k e w' b (n + 1) (fun q => if q = y then some z else F q) := by
  refine ⟨_, h3, fun q hq => ?_⟩
  dsimp only
  by_cases e : q = y
  · rw [if_pos e, e]
    exact ⟨has_put_same (k := .string y.data.toList) h1.isMap trivial _, atKey_put_same (k := .string y.data.toList) h1.isMap trivial _ _⟩
  · rw [if_neg e]
    exact ⟨(has_put_other (fun h => e (str_inj (by injection h))) _).trans (h2 q hq).1, (atKey_put_other (fun h => e (str_inj (by injection h))) _ _).trans (h2 q hq).2⟩
theorem wpList_update_mto {w0 w : World} (hg : o.guard = none) (m x v : Operand) (t : TypeId) (hop : o.op = Op.mapUpdate t m x v) (k e : TypeId) (hk : P.underlying k = some .string) (ht : P.underlying t = some (.map k e)) (he : P.underlying e = some (.int .i64))
    (b n : Nat) (F : ByteArray → Option Nat) (hm : a.eval m = .map (some b)) (hown : MapTO P k e w b n F) (hn : n < 9223372036854775807) (y : ByteArray) (z : Nat) (hx : a.eval x = .string y) (hy : y.size ≤ 9223372036854775807) (hv : a.eval v = .int .i64 z) (hz : L64 z)
    (hold : Old w0 w) (hb : w0.heap.size ≤ b)
    (hK : ∀ w', MapTO P k e w' b (n + 1) (fun q => if q = y then some z else F q) → Old w0 w' → w.grownBy w' (some b) → wpList P ops Q rest (a.put o.dst undef) w') : wpList P ops Q (o :: rest) a w := by
  obtain ⟨D, h1, h2⟩ := hown
  refine wpList_mapUpdate_own w hg m x v t hop k e (string_keyed hk) ht _ b n D hm h1 (by simpa [maxLen] using hn) (.string y) (.int .i64 z) (.string y.data.toList) hx hv (keyStr hk hy) _ [] (plainElem_int he hz.wf) fun w' h3 h4 => ?_
  exact hK w' (mto_put h1 h2 h3) (hold.grown h4 (fun j hj => by cases hj; exact hb)) h4
theorem wpList_insert_mto {w0 w : World} (hg : o.guard = none) (m x v : Operand) (t : TypeId) (hop : o.op = Op.insert t m x v) (k e : TypeId) (hk : P.underlying k = some .string) (ht : P.underlying t = some (.map k e)) (he : P.underlying e = some (.int .i64))
    (b n : Nat) (F : ByteArray → Option Nat) (hm : a.eval m = .map (some b)) (hown : MapTO P k e w b n F) (hn : n < 9223372036854775807) (y : ByteArray) (z : Nat) (hx : a.eval x = .string y) (hy : y.size ≤ 9223372036854775807) (hv : a.eval v = .int .i64 z) (hz : L64 z)
    (hold : Old w0 w) (hb : w0.heap.size ≤ b)
    (hK : ∀ w', MapTO P k e w' b (n + 1) (fun q => if q = y then some z else F q) → Old w0 w' → w.grownBy w' (some b) → wpList P ops Q rest (a.put o.dst undef) w') : wpList P ops Q (o :: rest) a w := by
  obtain ⟨D, h1, h2⟩ := hown
  refine wpList_plain hg fun K' hK' => ?_
  obtain ⟨w', hrun, r1, r2⟩ := h1.update (string_keyed hk) ht (by simpa [maxLen] using hn) (keyStr hk hy) (plainElem_int he hz.wf)
  unfold Oper.wp
  simp [execOp, hop, hm, hx, hv, hrun, Result.andThen]
  exact hK' _ _ (hK w' (mto_put h1 h2 r1) (hold.grown r2 (fun j hj => by cases hj; exact hb)) r2)
end
end Go.Proofs.YtpifkinlaicliaaGreatDoor
