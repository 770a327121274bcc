/-
  FROM TERM TO TERM, PLAIN: what is come to, as it is found one behind the other; over no program.
-/
import Derived.Test.YtohngjkedhpikaaGreatDoorZKwP
import Derived.Test.YtohngjkedhpikaaGreatDoorZBase
import Derived.Maps.OwnOps
import Derived.Maps.OwnSet
import Derived.Maps.RangeWalk
namespace Go.Proofs.YtohngjkedhpikaaGreatDoor

theorem nodup_le {α : Type} [DecidableEq α] : ∀ {l m : List α}, l.Nodup → (∀ x ∈ l, x ∈ m) → l.length ≤ m.length
  | [], _, _, _ => Nat.zero_le _
  | x :: l, m, h, hs => by
    rw [List.nodup_cons] at h
    have hx : x ∈ m := hs x (by simp)
    have := nodup_le (l := l) (m := m.erase x) h.2 fun y hy => by
      have hne : y ≠ x := fun e => h.1 (e ▸ hy)
      exact (List.mem_erase_of_ne hne).2 (hs y (by simp [hy]))
    rw [List.length_erase_of_mem hx] at this
    have hp : 0 < m.length := List.length_pos_of_mem hx
    rw [List.length_cons]
    omega
variable {E : ByteArray → ByteArray → Prop} {a : ByteArray} {V : List ByteArray} {i : Nat}
/-- V: what was found so far, each once; of the first i all that follow were found -/
structure Bfk (E : ByteArray → ByteArray → Prop) (a : ByteArray) (V : List ByteArray) (i : Nat) : Prop where
  nodup : V.Nodup
  start : a ∈ V
  sound : ∀ x ∈ V, Rch E a x
  le : i ≤ V.length
  done : ∀ (j : Nat) (x : ByteArray), j < i → V[j]? = some x → ∀ y, E x y → y ∈ V
theorem Bfk.init : Bfk E a [a] 0 := ⟨by simp, by simp, fun x hx => by rw [List.mem_singleton] at hx; subst hx; exact .refl, Nat.zero_le _, fun j x hj => by omega⟩
theorem Bfk.put {x y : ByteArray} (h : Bfk E a V i) (hx : x ∈ V) (he : E x y) (hy : y ∉ V) : Bfk E a (V ++ [y]) i := by
  refine ⟨?_, by simp [h.start], fun z hz => ?_, by have := h.le; simp; omega, fun k z hk hz u hu => ?_⟩
  · rw [List.nodup_append]
    refine ⟨h.nodup, by simp, ?_⟩
    intro u hu v hv e
    rw [List.mem_singleton] at hv
    subst hv; subst e
    exact hy hu
  · rw [List.mem_append, List.mem_singleton] at hz
    rcases hz with hz | rfl
    · exact h.sound z hz
    · exact .step (h.sound x hx) he
  · have := h.le
    rw [List.getElem?_append_left (by omega)] at hz
    exact List.mem_append_left _ (h.done k z hk hz u hu)
theorem Bfk.next {x : ByteArray} (h : Bfk E a V i) (hx : V[i]? = some x) (hs : ∀ y, E x y → y ∈ V) : Bfk E a V (i + 1) := by
  refine ⟨h.nodup, h.start, h.sound, (List.getElem?_eq_some_iff.1 hx).1, fun j z hj hz => ?_⟩
  by_cases e : j = i
  · subst e
    obtain rfl : x = z := by rw [hx] at hz; exact Option.some.inj hz
    exact hs
  · exact h.done j z (by omega) hz
theorem Bfk.all (h : Bfk E a V i) (hi : V.length ≤ i) {y : ByteArray} : Rch E a y ↔ y ∈ V := by
  constructor
  · intro hr
    induction hr with
    | refl => exact h.start
    | step _ he ih =>
      obtain ⟨j, hj⟩ := List.getElem?_of_mem ih
      exact h.done j _ (by have := (List.getElem?_eq_some_iff.1 hj).1; omega) hj _ he
  · exact h.sound y
theorem Bfk.bound (h : Bfk E a V i) {U : List ByteArray} (hU : ∀ x y, E x y → y ∈ U) : V.length ≤ U.length + 1 := by
  have := nodup_le (m := a :: U) h.nodup fun x hx => by
    have := h.sound x hx
    cases this with
    | refl => simp
    | step _ he => simp [hU _ _ he]
  simpa using this
theorem Rch.trans {b c : ByteArray} (h : Rch E a b) (k : Rch E b c) : Rch E a c := by
  induction k with
  | refl => exact h
  | step _ he ih => exact .step ih he
theorem Rch.mono {F : ByteArray → ByteArray → Prop} {b : ByteArray} (h : Rch E a b) (hEF : ∀ x y, E x y → F x y) : Rch F a b := by
  induction h with
  | refl => exact .refl
  | step _ he ih => exact .step ih (hEF _ _ he)
theorem Rch.cases_head {b : ByteArray} (h : Rch E a b) : a = b ∨ ∃ c, E a c ∧ Rch E c b := by
  induction h with
  | refl => exact .inl rfl
  | step h he ih =>
    rcases ih with rfl | ⟨c, h1, h2⟩
    · exact .inr ⟨_, he, .refl⟩
    · exact .inr ⟨c, h1, .step h2 he⟩
/-- what one comes to, itself left out, in order -/
def IsFollow (E : ByteArray → ByteArray → Prop) (t : ByteArray) (r : List ByteArray) : Prop := r.Pairwise (fun a b => compareT a b < 0) ∧ ∀ x, x ∈ r ↔ x ≠ t ∧ Rch E t x
theorem IsFollow.unique {t : ByteArray} {r s : List ByteArray} (h : IsFollow E t r) (k : IsFollow E t s) : r = s := by
  have hm : ∀ x, x ∈ r ↔ x ∈ s := fun x => by rw [h.2, k.2]
  have nd : ∀ {l : List ByteArray}, l.Pairwise (fun a b => compareT a b < 0) → l.Nodup := fun hl => hl.imp fun hab e => by
    rw [e, compareT_zero.2 rfl] at hab; omega
  refine List.Perm.eq_of_pairwise (le := fun a b => compareT a b ≤ 0) (fun a b _ _ h1 h2 => ?_) (h.1.imp fun h => by omega) (k.1.imp fun h => by omega) ((List.perm_ext_iff_of_nodup (nd h.1) (nd k.1)).2 hm)
  have := compareT_anti a b
  exact compareT_zero.1 (by omega)
theorem Bfk.follow {O : List ByteArray} (h : Bfk E a (a :: O) i) (hi : O.length < i) : IsFollow E a (srt compareT O) := by
  have hn := List.nodup_cons.1 h.nodup
  refine ⟨srt_strict compareT_ord hn.2 fun x y _ _ e => compareT_zero.1 e, fun x => ?_⟩
  rw [srt_mem, h.all (by simp; omega), List.mem_cons]
  constructor
  · intro hx; exact ⟨fun e => hn.1 (e ▸ hx), .inr hx⟩
  · rintro ⟨hx, e | hx'⟩
    · exact absurd e hx
    · exact hx'
end Go.Proofs.YtohngjkedhpikaaGreatDoor
/-
  WHETHER ENTRIES MAY BE AN INDEX, PLAIN; what is found in them; over no program.
-/

namespace Go.Proofs.YtohngjkedhpikaaGreatDoor

def plE (e : En) : Pl := (foldS e.term, foldS e.sub)
/-- numbers that rise, from 0 to below many -/
def risK (l : List Int) (many : Int) : Prop := ∀ (i : Nat) (x : Int), l[i]? = some x → 0 ≤ x ∧ x < many ∧ ∀ (j : Nat) (y : Int), i = j + 1 → l[j]? = some y → y < x
/-- texts in order, by their Folds -/
def ordK (l : List ByteArray) : Prop := ∀ (i : Nat) (x y : ByteArray), l[i]? = some x → l[i + 1]? = some y → cmpS x y < 0
open Classical in
/-- what is wrong with an entry by itself -/
noncomputable def aloneK (e : En) (topics : Int) : Int :=
  if ¬ (mayT e.term = true ∧ (e.sub = noB ∨ mayT e.sub = true)) then 90
  else if ¬ (∀ s ∈ e.sees, mayT s = true) then 90
  else if ¬ risK e.topics topics then 1
  else if e.topics.length + e.sees.length = 0 ∨ (¬ e.sub = noB ∧ ¬ e.sees = []) then 1
  else if ¬ ordK e.sees then 1
  else 0
/-- e may stand behind o -/
def pairK (o e : En) : Prop := cmpP (plE o) (plE e) < 0 ∧ ¬ (foldS o.term = foldS e.term ∧ ¬ o.term = e.term)
open Classical in
/-- what is wrong with the i-th -/
noncomputable def oneK (l : List En) (topics : Int) (i : Nat) (e : En) : Int :=
  if ¬ aloneK e topics = 0 then aloneK e topics
  else if ∃ (j : Nat) (o : En), i = j + 1 ∧ l[j]? = some o ∧ ¬ pairK o e then 31 else 0
def hasL (l : List En) (t : ByteArray) : Prop := ∃ e ∈ l, foldS e.term = t
def edgeL (l : List En) (a b : ByteArray) : Prop := ∃ e ∈ l, e.sub = noB ∧ foldS e.term = a ∧ ∃ s ∈ e.sees, foldS s = b
open Classical in
noncomputable def seeK (l : List En) (e : En) (s : ByteArray) : Int :=
  if ¬ hasL l (foldS s) then 91 else if Rch (edgeL l) (foldS s) (foldS e.term) then 92 else 0
open Classical in
/-- what Check is to answer -/
def CheckK (l : List En) (topics : Int) (at' code : Int) : Prop :=
  if 10000 < l.length then at' = 0 ∧ code = 2
  else if ∃ (i : Nat) (e : En), l[i]? = some e ∧ ¬ oneK l topics i e = 0 then
    ∃ (i : Nat) (e : En), l[i]? = some e ∧ ¬ oneK l topics i e = 0 ∧ at' = i ∧ code = oneK l topics i e ∧ ∀ (j : Nat) (o : En), j < i → l[j]? = some o → oneK l topics j o = 0
  else if ∃ (i : Nat) (e : En) (k : Nat) (s : ByteArray), l[i]? = some e ∧ e.sees[k]? = some s ∧ ¬ seeK l e s = 0 then
    ∃ (i : Nat) (e : En) (k : Nat) (s : ByteArray), l[i]? = some e ∧ e.sees[k]? = some s ∧ ¬ seeK l e s = 0 ∧ at' = i ∧ code = seeK l e s ∧
      (∀ (j : Nat) (o : En) (m : Nat) (u : ByteArray), j < i → l[j]? = some o → o.sees[m]? = some u → seeK l o u = 0) ∧ ∀ (m : Nat) (u : ByteArray), m < k → e.sees[m]? = some u → seeK l e u = 0
  else at' = 0 ∧ code = 0
theorem CheckK.unique {l : List En} {t a b c d : Int} (h : CheckK l t a b) (k : CheckK l t c d) : a = c ∧ b = d := by
  unfold CheckK at h k
  split at h
  · rename_i h0
    rw [if_pos h0] at k
    exact ⟨h.1.trans k.1.symm, h.2.trans k.2.symm⟩
  · rename_i h0
    rw [if_neg h0] at k
    split at h
    · rename_i h1
      rw [if_pos h1] at k
      obtain ⟨i, e, h2, h3, rfl, rfl, h4⟩ := h
      obtain ⟨j, o, k2, k3, rfl, rfl, k4⟩ := k
      have e1 : ¬ i < j := fun x => h3 (k4 i e x h2)
      have e2 : ¬ j < i := fun x => k3 (h4 j o x k2)
      obtain rfl : i = j := by omega
      obtain rfl : e = o := Option.some.inj (h2.symm.trans k2)
      exact ⟨rfl, rfl⟩
    · rename_i h1
      rw [if_neg h1] at k
      split at h
      · rename_i h2
        rw [if_pos h2] at k
        obtain ⟨i, e, m, s, a1, a2, a3, rfl, rfl, a4, a5⟩ := h
        obtain ⟨j, o, n, u, b1, b2, b3, rfl, rfl, b4, b5⟩ := k
        have e1 : ¬ i < j := fun x => a3 (b4 i e m s x a1 a2)
        have e2 : ¬ j < i := fun x => b3 (a4 j o n u x b1 b2)
        obtain rfl : i = j := by omega
        obtain rfl : e = o := Option.some.inj (a1.symm.trans b1)
        have e3 : ¬ m < n := fun x => a3 (b5 m s x a2)
        have e4 : ¬ n < m := fun x => b3 (a5 n u x b2)
        obtain rfl : m = n := by omega
        obtain rfl : s = u := Option.some.inj (a2.symm.trans b2)
        exact ⟨rfl, rfl⟩
      · rename_i h2
        rw [if_neg h2] at k
        exact ⟨h.1.trans k.1.symm, h.2.trans k.2.symm⟩

/-! ### what is found -/
/-- the numbers of those of which p holds -/
def pickK {α : Type} (p : α → Bool) (l : List α) : Nat → List Int
  | 0 => []
  | n + 1 => pickK p l n ++ (match l[n]? with | some x => if p x then [(n : Int)] else [] | none => [])
theorem pickK_snoc {α : Type} {p : α → Bool} {l : List α} {n : Nat} {x : α} (h : l[n]? = some x) : pickK p l (n + 1) = pickK p l n ++ (if p x then [(n : Int)] else []) := by
  rw [pickK, h]
theorem pickK_length {α : Type} (p : α → Bool) (l : List α) (n : Nat) : (pickK p l n).length ≤ n := by
  induction n with
  | zero => simp [pickK]
  | succ n ih =>
    rw [pickK, List.length_append]
    have : (match l[n]? with | some x => if p x then [(n : Int)] else [] | none => []).length ≤ 1 := by
      split
      · split <;> simp
      · simp
    omega
theorem mem_pickK {α : Type} {p : α → Bool} {l : List α} {n : Nat} {z : Int} : z ∈ pickK p l n ↔ ∃ (i : Nat) (x : α), i < n ∧ z = i ∧ l[i]? = some x ∧ p x = true := by
  induction n with
  | zero => simp [pickK]
  | succ n ih =>
    rw [pickK, List.mem_append, ih]
    constructor
    · rintro (⟨i, x, hi, h⟩ | h)
      · exact ⟨i, x, by omega, h⟩
      · split at h
        · rename_i x hx
          split at h
          · rename_i hp
            rw [List.mem_singleton] at h
            exact ⟨n, x, by omega, h, hx, hp⟩
          · simp at h
        · simp at h
    · rintro ⟨i, x, hi, hz, hx, hp⟩
      by_cases e : i = n
      · subst e
        right
        rw [hx]
        simp [hp, hz]
      · left; exact ⟨i, x, by omega, hz, hx, hp⟩
def findK (l : List En) (t : ByteArray) : List Int := pickK (fun e => decide (e.sub = noB) && decide (foldS e.term = t)) l l.length
def underK (l : List En) (t : ByteArray) : List Int := pickK (fun e => decide (¬ e.sub = noB) && decide (foldS e.term = t)) l l.length
/-- all numbers of a term -/
def IsTops (l : List En) (t : ByteArray) (r : List Int) : Prop := r.Pairwise (· < ·) ∧ ∀ x, x ∈ r ↔ ∃ e ∈ l, foldS e.term = t ∧ x ∈ e.topics
theorem lt_unique {r s : List Int} (h : r.Pairwise (· < ·)) (k : s.Pairwise (· < ·)) (hm : ∀ x, x ∈ r ↔ x ∈ s) : r = s := by
  have nd : ∀ {l : List Int}, l.Pairwise (· < ·) → l.Nodup := fun hl => hl.imp fun hab e => by omega
  refine List.Perm.eq_of_pairwise (le := fun a b => a ≤ b) (fun a b _ _ h1 h2 => by omega) (h.imp fun h => by omega) (k.imp fun h => by omega) ((List.perm_ext_iff_of_nodup (nd h) (nd k)).2 hm)
theorem IsTops.unique {l : List En} {t : ByteArray} {r s : List Int} (h : IsTops l t r) (k : IsTops l t s) : r = s := lt_unique h.1 k.1 fun x => by rw [h.2, k.2]
/-- headings: a group's name, where it begins -/
structure Hd where
  name : ByteArray
  at' : Int
def headStep (g : ByteArray → ByteArray) (acc : List Hd) (i : Nat) (e : En) : List Hd := if acc.getLast?.map Hd.name = some (g (foldS e.term)) then acc else acc ++ [⟨g (foldS e.term), i⟩]
def headK (g : ByteArray → ByteArray) (l : List En) : Nat → List Hd
  | 0 => []
  | n + 1 => match l[n]? with | some e => headStep g (headK g l n) n e | none => headK g l n
theorem headK_snoc {g : ByteArray → ByteArray} {l : List En} {n : Nat} {e : En} (h : l[n]? = some e) : headK g l (n + 1) = headStep g (headK g l n) n e := by rw [headK, h]
/-- the last heading is that of the last entry -/
theorem headK_last {g : ByteArray → ByteArray} {l : List En} {n : Nat} {e : En} (h : l[n]? = some e) : (headK g l (n + 1)).getLast?.map Hd.name = some (g (foldS e.term)) := by
  rw [headK_snoc h, headStep]
  split
  · assumption
  · simp
theorem headK_length (g : ByteArray → ByteArray) (l : List En) (n : Nat) : (headK g l n).length ≤ n := by
  induction n with
  | zero => simp [headK]
  | succ n ih =>
    rw [headK]
    split
    · rw [headStep]
      split
      · omega
      · simp; omega
    · omega
theorem headK_zero {g : ByteArray → ByteArray} {l : List En} {n : Nat} (hn : n ≤ l.length) : headK g l n = [] ↔ n = 0 := by
  cases n with
  | zero => simp [headK]
  | succ n =>
    have := headK_last (g := g) (List.getElem?_eq_getElem (by omega : n < l.length))
    constructor
    · intro h; rw [h] at this; simp at this
    · intro h; omega
end Go.Proofs.YtohngjkedhpikaaGreatDoor
/-
  THE CALL's OWN MAP, WHATEVER ITS KEYS AND VALUES, READ AS A FUNCTION TO A VALUE OR NOTHING; ranged over: over no program.
-/




namespace Go.Proofs.YtohngjkedhpikaaGreatDoor
open Go.RowKit Go.Maps

/-- an element, read as it is -/
def heldR (v : Value) : Option (DataW Value × List MemPlace) := some (.held v, [])
theorem heldR_inv {v : Value} {d : DataW Value} {ps : List MemPlace} (h : heldR v = some (d, ps)) : d = .held v ∧ ps = [] := by
  unfold heldR at h
  simp at h
  exact ⟨h.1.symm, h.2⟩
section
variable {κ : Type} {P : Program} {k e : TypeId} {kv : κ → Value}
/-- the datum D holds what F says -/
structure Holds (P : Program) (k : TypeId) (kv : κ → Value) (D : DataW Value) (F : κ → Option Value) : Prop where
  val : ∀ x kl, keyOf P k (kv x) = some kl → Maps.has D kl = (F x).isSome ∧ ∀ z, D.atKey kl (.held z) = .held ((F x).getD z)
  key : ∀ key kl, keyOf P k key = some kl → Maps.has D kl = true → ∃ x, key = kv x
theorem Holds.none : Holds P k kv (.map []) (fun _ => none) := ⟨fun _ _ _ => ⟨rfl, fun _ => rfl⟩, fun _ _ _ h => by simp [Maps.has] at h⟩
/-- block b: a map of at most n entries; the key x holds F x -/
def MapV (P : Program) (k : TypeId) (kv : κ → Value) (w : World) (b n : Nat) (F : κ → Option Value) : Prop :=
  ∃ D : DataW Value, w.ownsMap P k heldR b n D ∧ Holds P k kv D F
theorem MapV.made (P : Program) (k : TypeId) (kv : κ → Value) (w : World) : MapV P k kv (w.alloc (.map #[] 0)) w.heap.size 0 (fun _ => none) :=
  ⟨.map [], World.ownsMap_made _ _ _ _, Holds.none⟩
theorem MapV.kept {w w' : World} {b n : Nat} {F : κ → Option Value} {row : Option Nat} (h : MapV P k kv w b n F) (hg : w.grownBy w' row) (hne : some b ≠ row) : MapV P k kv w' b n F := by
  obtain ⟨D, h1, h2⟩ := h
  exact ⟨D, h1.kept hg hne, h2⟩
theorem MapV.old {w w' : World} {b n : Nat} {F : κ → Option Value} (h : MapV P k kv w b n F) (o : Old w w') : MapV P k kv w' b n F := h.kept (Old.grownBy o none) (by simp)
theorem MapV.setCell {w : World} {b n : Nat} {F : κ → Option Value} (h : MapV P k kv w b n F) {a : Addr} (ha : b ≠ a.block) (u : Value) : MapV P k kv (w.setCell a u) b n F := by
  obtain ⟨D, h1, h2⟩ := h
  exact ⟨D, h1.setCell ha u, h2⟩
theorem MapV.mono {w : World} {b n m : Nat} {F : κ → Option Value} (h : MapV P k kv w b n F) (hm : n ≤ m) : MapV P k kv w b m F := by
  obtain ⟨D, h1, h2⟩ := h
  exact ⟨D, h1.mono hm, h2⟩
theorem MapV.lt {w : World} {b n : Nat} {F : κ → Option Value} (h : MapV P k kv w b n F) : b < w.heap.size := by
  obtain ⟨D, h1, _⟩ := h
  exact h1.lt
theorem MapV.notCells {w : World} {b n : Nat} {F : κ → Option Value} (h : MapV P k kv w b n F) : ∃ es c, w.heap[b]? = some (.map es c) := by
  obtain ⟨D, ⟨es, c, h1, _⟩, _⟩ := h
  exact ⟨es, c, h1⟩
theorem MapV.look {t : TypeId} {w : World} {b n : Nat} {F : κ → Option Value} (h : MapV P k kv w b n F) (K : Keyed P k) (ht : P.underlying t = some (.map k e)) {z : Value} (hz : (zeroValue e).run P w = .ok z w) {x : κ} {kl : Lit} (hkey : keyOf P k (kv x) = some kl) :
    (Instr.lookup t (.map (some b)) (kv x) false).run P w = .ok ((F x).getD z) w := by
  obtain ⟨D, h1, h2⟩ := h
  obtain ⟨v, ps, hrun, hv⟩ := h1.lookup K ht hz (zd := .held z) (zp := []) rfl hkey
  have := (heldR_inv hv).1
  rw [(h2.val x kl hkey).2 z] at this
  rw [hrun]
  injection this with this
  rw [this]
theorem MapV.look_ok {t : TypeId} {w : World} {b n : Nat} {F : κ → Option Value} (h : MapV P k kv w b n F) (K : Keyed P k) (ht : P.underlying t = some (.map k e)) {z : Value} (hz : (zeroValue e).run P w = .ok z w) {x : κ} {kl : Lit} (hkey : keyOf P k (kv x) = some kl) :
    (Instr.lookup t (.map (some b)) (kv x) true).run P w = .ok (.tuple #[(F x).getD z, .bool (F x).isSome]) w := by
  obtain ⟨D, h1, h2⟩ := h
  obtain ⟨v, ps, hrun, hv⟩ := h1.look_ok K ht hz (zd := .held z) (zp := []) rfl hkey
  have := (heldR_inv hv).1
  rw [(h2.val x kl hkey).2 z] at this
  rw [hrun, (h2.val x kl hkey).1]
  injection this with this
  rw [this]
theorem Holds.put [DecidableEq κ] {D : DataW Value} {F : κ → Option Value} (h : Holds P k kv D F) (K : Keyed P k) (hinj : ∀ x y, kv x = kv y → x = y) (hD : IsMap D) {x : κ} {kl : Lit} (hkey : keyOf P k (kv x) = some kl) (v : Value) :
    Holds P k kv (D.put kl (.held v)) (fun q => if q = x then some v else F q) := by
  refine ⟨fun q ql hq => ?_, fun key ql hq hh => ?_⟩
  · by_cases hqx : q = x
    · subst hqx
      obtain rfl : kl = ql := Option.some.inj (hkey.symm.trans hq)
      rw [if_pos rfl]
      exact ⟨has_put_same hD (K.key hkey) _, fun z => atKey_put_same hD (K.key hkey) _ _⟩
    · have hne : ql ≠ kl := fun e => hqx (hinj _ _ (K.inj (e ▸ hq) hkey))
      rw [if_neg hqx]
      exact ⟨(has_put_other hne _).trans (h.val q ql hq).1, fun z => (atKey_put_other hne _ _).trans ((h.val q ql hq).2 z)⟩
  · by_cases hne : ql = kl
    · exact ⟨x, K.inj (hne ▸ hq) hkey⟩
    · rw [has_put_other hne] at hh
      exact h.key key ql hq hh
variable {ops : Array Oper} {rest : List Oper} {o : Oper} {a : Act} {Q : Exit → Act → World → Prop}
theorem wpList_update_mv [DecidableEq κ] {w : World} (hg : o.guard = none) (m x v : Operand) (t : TypeId) (hop : o.op = Op.mapUpdate t m x v) (k e : TypeId) (K : Keyed P k) (kv : κ → Value) (hinj : ∀ x y, kv x = kv y → x = y) (ht : P.underlying t = some (.map k e))
    (b n : Nat) (F : κ → Option Value) (hm : a.eval m = .map (some b)) (hown : MapV P k kv w b n F) (hn : n < 9223372036854775807) (y : κ) (kl : Lit) (hx : a.eval x = kv y) (hkey : keyOf P k (kv y) = some kl) (u : Value) (hv : a.eval v = u)
    (hK : ∀ w', MapV P k kv w' b (n + 1) (fun q => if q = y then some u else F q) → w.grownBy w' (some b) → wpList P ops Q rest (a.put o.dst undef) w') : wpList P ops Q (o :: rest) a w := by
  obtain ⟨D, h1, h2⟩ := hown
  refine wpList_mapUpdate_own w hg m x v t hop k e K ht _ b n D hm h1 (by simpa [maxLen] using hn) (kv y) u kl hx hv hkey (.held u) [] rfl fun w' h3 h4 => ?_
  exact hK w' ⟨_, h3, h2.put K hinj h1.isMap hkey u⟩ h4
theorem wpList_lookup_mv {w : World} (hg : o.guard = none) (m x : Operand) (t : TypeId) (hop : o.op = Op.lookup t m x false) (k e : TypeId) (K : Keyed P k) (kv : κ → Value) (ht : P.underlying t = some (.map k e)) (z : Value) (hz : (zeroValue e).run P w = .ok z w)
    (b n : Nat) (F : κ → Option Value) (hm : a.eval m = .map (some b)) (hown : MapV P k kv w b n F) (y : κ) (kl : Lit) (hx : a.eval x = kv y) (hkey : keyOf P k (kv y) = some kl) (u : Option Value) (hF : F y = u)
    (hK : wpList P ops Q rest (a.put o.dst (u.getD z)) w) : wpList P ops Q (o :: rest) a w := by
  subst hF
  refine wpList_plain hg fun K' hK' => ?_
  have hrun := hown.look K ht hz hkey
  unfold Oper.wp
  simp [execOp, hop, hm, hx, hrun, Result.andThen]
  exact hK' _ _ hK
theorem wpList_lookup_mv_ok {w : World} (hg : o.guard = none) (m x : Operand) (t : TypeId) (hop : o.op = Op.lookup t m x true) (k e : TypeId) (K : Keyed P k) (kv : κ → Value) (ht : P.underlying t = some (.map k e)) (z : Value) (hz : (zeroValue e).run P w = .ok z w)
    (b n : Nat) (F : κ → Option Value) (hm : a.eval m = .map (some b)) (hown : MapV P k kv w b n F) (y : κ) (kl : Lit) (hx : a.eval x = kv y) (hkey : keyOf P k (kv y) = some kl) (u : Option Value) (hF : F y = u)
    (hK : wpList P ops Q rest (a.put o.dst (.tuple #[u.getD z, .bool u.isSome])) w) : wpList P ops Q (o :: rest) a w := by
  subst hF
  refine wpList_plain hg fun K' hK' => ?_
  have hrun := hown.look_ok K ht hz hkey
  unfold Oper.wp
  simp [execOp, hop, hm, hx, hrun, Result.andThen]
  exact hK' _ _ hK
theorem wpList_insert_mv [DecidableEq κ] {w : World} (hg : o.guard = none) (m x v : Operand) (t : TypeId) (hop : o.op = Op.insert t m x v) (k e : TypeId) (K : Keyed P k) (kv : κ → Value) (hinj : ∀ x y, kv x = kv y → x = y) (ht : P.underlying t = some (.map k e))
    (b n : Nat) (F : κ → Option Value) (hm : a.eval m = .map (some b)) (hown : MapV P k kv w b n F) (hn : n < 9223372036854775807) (y : κ) (kl : Lit) (hx : a.eval x = kv y) (hkey : keyOf P k (kv y) = some kl) (u : Value) (hv : a.eval v = u)
    (hK : ∀ w', MapV P k kv w' b (n + 1) (fun q => if q = y then some u else F q) → w.grownBy w' (some b) → wpList P ops Q rest (a.put o.dst undef) w') : wpList P ops Q (o :: rest) a w := by
  obtain ⟨D, h1, h2⟩ := hown
  refine wpList_plain hg fun K' hK' => ?_
  obtain ⟨w', hrun, r1, r2⟩ := h1.update K ht (val := u) (d := .held u) (ps := []) (by simpa [maxLen] using hn) hkey rfl
  unfold Oper.wp
  simp [execOp, hop, hm, hx, hv, hrun, Result.andThen]
  exact hK' _ _ (hK w' ⟨_, r1, h2.put K hinj h1.isMap hkey u⟩ r2)

/-! ### ranged over -/
/-- block r: a walk over the map in block b; L: what is still to come -/
def MapR (P : Program) (k : TypeId) (kv : κ → Value) (w : World) (b r n : Nat) (F : κ → Option Value) (L : κ → Prop) (cnt : Nat) : Prop :=
  ∃ (D : DataW Value) (left : Lit → Bool), w.ranges P k heldR b r n D left cnt ∧ Holds P k kv D F ∧ (∀ x kl, keyOf P k (kv x) = some kl → (left kl = true ↔ L x)) ∧ (∀ kl, left kl = true → Maps.has D kl = true)
theorem MapR.map {w : World} {b r n cnt : Nat} {F : κ → Option Value} {L : κ → Prop} (h : MapR P k kv w b r n F L cnt) : MapV P k kv w b n F := by
  obtain ⟨D, left, h1, h2, _⟩ := h
  exact ⟨D, h1.owns, h2⟩
theorem MapR.left_eq {w : World} {b r n cnt : Nat} {F : κ → Option Value} {L : κ → Prop} (h : MapR P k kv w b r n F L cnt) : w.rangeLeft b r = cnt := by
  obtain ⟨D, left, h1, _⟩ := h
  exact h1.left_eq
theorem MapR.kept {w w' : World} {b r n cnt : Nat} {F : κ → Option Value} {L : κ → Prop} {row : Option Nat} (h : MapR P k kv w b r n F L cnt) (hg : w.grownBy w' row) (hb : some b ≠ row) (hr : some r ≠ row) : MapR P k kv w' b r n F L cnt := by
  obtain ⟨D, left, h1, h2⟩ := h
  exact ⟨D, left, h1.kept hg hb hr, h2⟩
theorem MapR.old {w w' : World} {b r n cnt : Nat} {F : κ → Option Value} {L : κ → Prop} (h : MapR P k kv w b r n F L cnt) (o : Old w w') : MapR P k kv w' b r n F L cnt := h.kept (Old.grownBy o none) (by simp) (by simp)
theorem MapR.ne {w : World} {b r n cnt : Nat} {F : κ → Option Value} {L : κ → Prop} (h : MapR P k kv w b r n F L cnt) : r ≠ b := by
  obtain ⟨D, left, h1, _⟩ := h
  exact h1.ne
theorem MapR.lt {w : World} {b r n cnt : Nat} {F : κ → Option Value} {L : κ → Prop} (h : MapR P k kv w b r n F L cnt) : r < w.heap.size := by
  obtain ⟨D, left, h1, _⟩ := h
  exact h1.lt
theorem wpList_range_mv {w : World} (hg : o.guard = none) (m : Operand) (t : TypeId) (hop : o.op = Op.range t m) (k e : TypeId) (K : Keyed P k) (kv : κ → Value) (ht : P.underlying t = some (.map k e)) (b n : Nat) (F : κ → Option Value)
    (hm : a.eval m = .map (some b)) (hown : MapV P k kv w b n F)
    (hK : ∀ w' cnt, MapR P k kv w' b w.heap.size n F (fun x => (F x).isSome = true) cnt → w.grownBy w' none → w'.heap.size = w.heap.size + 1 → wpList P ops Q rest (a.put o.dst (.pointer (some ⟨w.heap.size, 0, none⟩))) w') :
    wpList P ops Q (o :: rest) a w := by
  obtain ⟨D, h1, h2⟩ := hown
  refine wpList_range_own w hg m t hop k e K ht heldR b n D hm h1 fun w' r1 r2 r3 => ?_
  exact hK w' _ ⟨D, _, r1, h2, fun x kl hk => by rw [(h2.val x kl hk).1], fun _ h => h⟩ r2 r3
theorem wpList_next_mv {w : World} (hg : o.guard = none) (it : Operand) (hop : o.op = Op.next it false) (k : TypeId) (K : Keyed P k) (kv : κ → Value) (hinj : ∀ x y, kv x = kv y → x = y) (b r n : Nat) (F : κ → Option Value) (L : κ → Prop) (cnt : Nat)
    (hit : a.eval it = .pointer (some ⟨r, 0, none⟩)) (h : MapR P k kv w b r n F L cnt)
    (hDone : cnt = 0 → (∀ x kl, keyOf P k (kv x) = some kl → ¬ L x) → wpList P ops Q rest (a.put o.dst (.tuple #[.bool false])) w)
    (hMore : ∀ (x : κ) (v : Value) (kl : Lit) (w' : World) (cnt' : Nat), keyOf P k (kv x) = some kl → L x → F x = some v → MapR P k kv w' b r n F (fun z => L z ∧ z ≠ x) cnt' → cnt' < cnt →
      w.grownBy w' (some r) → w'.heap.size = w.heap.size → (Instr.entry (.pointer (some ⟨r, 0, none⟩))).run P w' = .ok (.tuple #[kv x, v]) w' → wpList P ops Q rest (a.put o.dst (.tuple #[.bool true, kv x, v])) w') :
    wpList P ops Q (o :: rest) a w := by
  obtain ⟨D, left, h1, h2, hL, hl⟩ := h
  refine wpList_plain hg fun K' hK' => ?_
  unfold Oper.wp
  rcases h1.next K o.type with ⟨h0, hl0, hrun⟩ | ⟨key, v, kl, y, w', cnt', hkey, hlk, hv, hat, hrun, hrg, hlt, hgr, hsz, hen⟩
  · simp [execOp, hop, hit, hrun, Result.andThen]
    exact hK' _ _ (hDone h0 fun x kl hk hx => by rw [← hL x kl hk, hl0] at hx; cases hx)
  · obtain ⟨x, rfl⟩ := h2.key key kl hkey (hl kl hlk)
    have hF : F x = some v := by
      have hy : y.1 = .held v := (heldR_inv (d := y.1) (ps := y.2) (by rw [hv])).1
      cases hFx : F x with
      | some u =>
        have := (h2.val x kl hkey).2 undef
        rw [hat, hy, hFx] at this
        injection this with this
        rw [this]; rfl
      | none =>
        have t1 := (h2.val x kl hkey).2 (.bool true)
        have t2 := (h2.val x kl hkey).2 (.bool false)
        rw [hat, hy, hFx] at t1 t2
        rw [t1] at t2
        injection t2 with t2
        cases t2
    simp [execOp, hop, hit, hrun, Result.andThen]
    refine hK' _ _ (hMore x v kl w' cnt' hkey ((hL x kl hkey).1 hlk) hF ⟨D, _, hrg, h2, fun q ql hq => ?_, fun ql hq => ?_⟩ hlt hgr hsz hen)
    · simp only [Bool.and_eq_true, Bool.not_eq_true']
      rw [hL q ql hq]
      constructor
      · rintro ⟨a1, a2⟩
        refine ⟨a1, fun e => ?_⟩
        subst e
        obtain rfl : kl = ql := Option.some.inj (hkey.symm.trans hq)
        rw [WideAt.sameKey_self (K.key hkey)] at a2
        cases a2
      · rintro ⟨a1, a2⟩
        refine ⟨a1, ?_⟩
        cases hs : ql.sameKey kl with
        | false => rfl
        | true => exact absurd (hinj _ _ (K.inj (WideAt.sameKey_eq hs ▸ hq) hkey)) a2
    · simp only [Bool.and_eq_true] at hq
      exact hl ql hq.1
end
end Go.Proofs.YtohngjkedhpikaaGreatDoor
