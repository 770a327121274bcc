/-
  KEYWORD, RE, PLAIN: what is come to by a step at least; what is put in its place from the end on; over no program.
-/
import Derived.Test.YtohngjkedhpikaaGreatDoorZMapsV
import Derived.Test.YtohngjkedhpikaaGreatDoorZTextJoin
import Derived.Test.YtohngjkedhpikaaGreatDoorZKwQ
import Derived.Test.YtohngjkedhpikaaGreatDoorZKwR
import Derived.Test.YtohngjkedhpikaaGreatDoorZTextCodesD
import Derived.BigRegion
import Derived.Deep.RegionHeldLaw
namespace Go.Proofs.YtohngjkedhpikaaGreatDoor

theorem str_bne {a b : ByteArray} (h : ¬ a = b) : (a.toList != b.toList) = true := by unfold bne; rw [str_beq]; simp [h]
theorem str_bnn {a b : ByteArray} (h : a = b) : (a.toList != b.toList) = false := by unfold bne; rw [str_beq]; simp [h]
theorem str_eqf {a b : ByteArray} (h : ¬ a = b) : (a.toList == b.toList) = false := by rw [str_beq]; simp [h]
theorem str_eqt {a b : ByteArray} (h : a = b) : (a.toList == b.toList) = true := by rw [str_beq]; simp [h]
/-! ### put in its place, from the end on -/
theorem insA_pass {α : Type} {c : α → α → Int} {x : α} : ∀ {R Q : List α}, (∀ y ∈ R, 0 < c y x) → insA c (R ++ Q) x = R ++ insA c Q x
  | [], _, _ => rfl
  | y :: R, Q, h => by
    rw [List.cons_append, insA, if_pos (h y (by simp)), insA_pass fun z hz => h z (by simp [hz])]
    rfl
theorem srtStep_split {α : Type} {c : α → α → Int} {A B : List α} {x : α} (hB : ∀ y ∈ B, 0 < c y x) (hA : ∀ y, A.getLast? = some y → ¬ 0 < c y x) : srtStep c (A ++ B) x = A ++ x :: B := by
  unfold srtStep
  rw [List.reverse_append, insA_pass fun y hy => hB y (by simpa using hy)]
  have : insA c A.reverse x = x :: A.reverse := by
    cases h : A.reverse with
    | nil => rfl
    | cons y r =>
      rw [insA, if_neg (hA y (by rw [← List.head?_reverse, h]; rfl))]
  rw [this]
  simp
/-- a row into which x is put: x stands at k, what was from k on stands behind it -/
def midA {α : Type} (l : List α) (x : α) (k : Nat) : List α := l.take k ++ x :: l.drop k
theorem midA_length {α : Type} (l : List α) (x : α) (k : Nat) (hk : k ≤ l.length) : (midA l x k).length = l.length + 1 := by
  unfold midA; rw [List.length_append, List.length_take, List.length_cons, List.length_drop]; omega
theorem midA_end {α : Type} (l : List α) (x : α) : midA l x l.length = l ++ [x] := by unfold midA; simp
theorem midA_at {α : Type} (l : List α) (x : α) (k : Nat) (hk : k ≤ l.length) : (midA l x k)[k]? = some x := by
  unfold midA
  rw [List.getElem?_append_right (by rw [List.length_take]; omega), List.length_take, Nat.min_eq_left hk, Nat.sub_self]
  rfl
theorem midA_prev {α : Type} {l : List α} {x y : α} {k : Nat} (h : l[k]? = some y) : (midA l x (k + 1))[k]? = some y := by
  have := (List.getElem?_eq_some_iff.1 h).1
  unfold midA
  rw [List.getElem?_append_left (by rw [List.length_take]; omega), List.getElem?_take_of_lt (by omega), h]
theorem midA_swap {α : Type} {l : List α} {x y : α} {k : Nat} (h : l[k]? = some y) : ((midA l x (k + 1)).set k x).set (k + 1) y = midA l x k := by
  have hk := (List.getElem?_eq_some_iff.1 h).1
  have e1 : l.take (k + 1) = l.take k ++ [y] := by rw [List.take_add_one, h]; rfl
  have e2 : l.drop k = y :: l.drop (k + 1) := by
    rw [List.drop_eq_getElem_cons hk]
    congr 1
    rw [List.getElem?_eq_getElem hk] at h
    exact Option.some.inj h
  unfold midA
  rw [e1, e2, List.append_assoc]
  have hl : (l.take k).length = k := by rw [List.length_take]; omega
  rw [List.set_append_right _ _ (by omega), hl, Nat.sub_self, List.set_append_right _ _ (by omega), hl, show k + 1 - k = 1 by omega]
  rfl
theorem midA_swap' {α : Type} {l : List α} {x y : α} {k : Nat} (h : l[k]? = some y) : ((midA l x (k + 1)).set (k + 1) y).set k x = midA l x k := by
  rw [List.set_comm _ _ (by omega)]
  exact midA_swap h
theorem midA_done {α : Type} {c : α → α → Int} {l : List α} {x : α} {k : Nat} (hB : ∀ y ∈ l.drop k, 0 < c y x) (hA : ∀ (j : Nat) (y : α), k = j + 1 → l[j]? = some y → ¬ 0 < c y x) (hk : k ≤ l.length) : midA l x k = srtStep c l x := by
  have := srtStep_split (c := c) (A := l.take k) (B := l.drop k) (x := x) hB fun y hy => by
    cases k with
    | zero => simp at hy
    | succ k =>
      refine hA k y rfl ?_
      rw [List.getLast?_eq_getElem?, List.length_take, Nat.min_eq_left hk, List.getElem?_take_of_lt (by omega)] at hy
      simpa using hy
  rw [List.take_append_drop] at this
  exact this.symm
theorem drop_prev {α : Type} {p : α → Prop} {l : List α} {k : Nat} {y : α} (h : l[k]? = some y) (hy : p y) (hB : ∀ z ∈ l.drop (k + 1), p z) : ∀ z ∈ l.drop k, p z := by
  have hk := (List.getElem?_eq_some_iff.1 h).1
  have e2 : l.drop k = y :: l.drop (k + 1) := by
    rw [List.drop_eq_getElem_cons hk]
    congr 1
    rw [List.getElem?_eq_getElem hk] at h
    exact Option.some.inj h
  rw [e2]
  intro z hz
  rcases List.mem_cons.1 hz with rfl | hz
  · exact hy
  · exact hB z hz

/-! ### numbers that rise -/
def subI (a b : Int) : Int := a - b
theorem subI_ord : OrdA subI := ⟨fun i j => by unfold subI; omega, fun i j k h1 h2 => by unfold subI at *; omega⟩
/-- a number put into numbers that rise, once -/
def riseK (l : List Int) (n : Int) : List Int := if n ∈ l then l else srtStep subI l n
theorem riseK_in {l : List Int} {n : Int} (h : n ∈ l) : riseK l n = l := if_pos h
theorem riseK_new {l : List Int} {n : Int} (h : n ∉ l) : riseK l n = srtStep subI l n := if_neg h
theorem riseK_mem {l : List Int} {n x : Int} : x ∈ riseK l n ↔ x ∈ l ∨ x = n := by
  unfold riseK
  split
  · rename_i h
    exact ⟨.inl, fun k => k.elim id fun e => e ▸ h⟩
  · rw [(srtStep_perm l n).mem_iff, List.mem_append, List.mem_singleton]
theorem riseK_length (l : List Int) (n : Int) : (riseK l n).length ≤ l.length + 1 := by
  unfold riseK
  split
  · omega
  · rw [(srtStep_perm l n).length_eq]; simp
theorem riseK_rise {l : List Int} {n : Int} (h : l.Pairwise (· < ·)) : (riseK l n).Pairwise (· < ·) := by
  unfold riseK
  split
  · exact h
  · rename_i hn
    have h1 : (srtStep subI l n).Pairwise fun a b => subI a b ≤ 0 := by
      unfold srtStep
      rw [List.pairwise_reverse]
      refine insA_sorted subI_ord ?_
      rw [List.pairwise_reverse]
      exact h.imp fun h => by unfold subI; omega
    have h2 : (srtStep subI l n).Nodup := by
      rw [(srtStep_perm l n).nodup_iff, List.nodup_append]
      refine ⟨h.imp fun h e => by omega, by simp, ?_⟩
      intro x hx y hy e
      rw [List.mem_singleton] at hy
      exact hn (hy ▸ e ▸ hx)
    rw [List.pairwise_iff_getElem]
    intro i j hi hj hij
    have a := List.pairwise_iff_getElem.1 h1 i j hi hj hij
    have b := List.pairwise_iff_getElem.1 h2 i j hi hj hij
    rcases Int.lt_or_eq_of_le (Int.le_of_sub_nonpos a) with h | h
    · exact h
    · exact absurd h b
/-- of the first n numbers of a row -/
def riseL (r : List Int) (t : List Int) : Nat → List Int
  | 0 => r
  | n + 1 => riseK (riseL r t n) (t.getD n 0)
/-- the numbers of the first n entries of a term -/
def topsK (l : List En) (t : ByteArray) : Nat → List Int
  | 0 => []
  | n + 1 => match l[n]? with | some e => if foldS e.term = t then riseL (topsK l t n) e.topics e.topics.length else topsK l t n | none => topsK l t n
theorem topsK_own {l : List En} {t : ByteArray} {n : Nat} {e : En} (h : l[n]? = some e) (he : foldS e.term = t) : topsK l t (n + 1) = riseL (topsK l t n) e.topics e.topics.length := by rw [topsK, h]; simp only; rw [if_pos he]
theorem topsK_skip {l : List En} {t : ByteArray} {n : Nat} {e : En} (h : l[n]? = some e) (he : ¬ foldS e.term = t) : topsK l t (n + 1) = topsK l t n := by rw [topsK, h]; simp only; rw [if_neg he]
theorem riseL_succ {r t : List Int} {n : Nat} {x : Int} (h : t[n]? = some x) : riseL r t (n + 1) = riseK (riseL r t n) x := by
  rw [riseL]
  congr 1
  simp [List.getD, h]
theorem riseL_mem {r t : List Int} {n : Nat} (hn : n ≤ t.length) {x : Int} : x ∈ riseL r t n ↔ x ∈ r ∨ ∃ (i : Nat), i < n ∧ t[i]? = some x := by
  induction n with
  | zero => simp [riseL]
  | succ n ih =>
    obtain ⟨y, hy⟩ : ∃ y, t[n]? = some y := ⟨_, List.getElem?_eq_getElem (by omega)⟩
    rw [riseL_succ hy, riseK_mem, ih (by omega)]
    constructor
    · rintro ((h | ⟨i, hi, h⟩) | rfl)
      · exact .inl h
      · exact .inr ⟨i, by omega, h⟩
      · exact .inr ⟨n, by omega, hy⟩
    · rintro (h | ⟨i, hi, h⟩)
      · exact .inl (.inl h)
      · by_cases e : i = n
        · subst e; exact .inr (Option.some.inj (h.symm.trans hy))
        · exact .inl (.inr ⟨i, by omega, h⟩)
theorem riseL_rise {r t : List Int} {n : Nat} (h : r.Pairwise (· < ·)) : (riseL r t n).Pairwise (· < ·) := by
  induction n with
  | zero => exact h
  | succ n ih => exact riseK_rise ih
theorem riseL_length (r t : List Int) (n : Nat) : (riseL r t n).length ≤ r.length + n := by
  induction n with
  | zero => exact Nat.le_refl _
  | succ n ih => have := riseK_length (riseL r t n) (t.getD n 0); rw [riseL]; omega
theorem topsK_rise (l : List En) (t : ByteArray) (n : Nat) : (topsK l t n).Pairwise (· < ·) := by
  induction n with
  | zero => simp [topsK]
  | succ n ih =>
    rw [topsK]
    split
    · split
      · exact riseL_rise ih
      · exact ih
    · exact ih
theorem topsK_mem {l : List En} {t : ByteArray} {n : Nat} {x : Int} : x ∈ topsK l t n ↔ ∃ (i : Nat) (e : En), i < n ∧ l[i]? = some e ∧ foldS e.term = t ∧ x ∈ e.topics := by
  induction n with
  | zero => simp [topsK]
  | succ n ih =>
    cases he : l[n]? with
    | none =>
      rw [topsK, he]
      simp only
      rw [ih]
      constructor
      · rintro ⟨i, e, hi, h⟩; exact ⟨i, e, by omega, h⟩
      · rintro ⟨i, e, hi, h1, h2⟩
        by_cases c : i = n
        · subst c; rw [he] at h1; cases h1
        · exact ⟨i, e, by omega, h1, h2⟩
    | some y =>
      by_cases hy : foldS y.term = t
      · rw [topsK_own he hy, riseL_mem (Nat.le_refl _), ih]
        constructor
        · rintro (⟨i, e, hi, h⟩ | ⟨j, _, h⟩)
          · exact ⟨i, e, by omega, h⟩
          · exact ⟨n, y, by omega, he, hy, List.mem_of_getElem? h⟩
        · rintro ⟨i, e, hi, h1, h2, h3⟩
          by_cases c : i = n
          · subst c
            obtain rfl := Option.some.inj (h1.symm.trans he)
            obtain ⟨j, hj⟩ := List.getElem?_of_mem h3
            exact .inr ⟨j, (List.getElem?_eq_some_iff.1 hj).1, hj⟩
          · exact .inl ⟨i, e, by omega, h1, h2, h3⟩
      · rw [topsK_skip he hy, ih]
        constructor
        · rintro ⟨i, e, hi, h⟩; exact ⟨i, e, by omega, h⟩
        · rintro ⟨i, e, hi, h1, h2, h3⟩
          by_cases c : i = n
          · subst c
            obtain rfl := Option.some.inj (h1.symm.trans he)
            exact absurd h2 hy
          · exact ⟨i, e, by omega, h1, h2, h3⟩
theorem topsK_tops (l : List En) (t : ByteArray) : IsTops l t (topsK l t l.length) := by
  refine ⟨topsK_rise l t _, fun x => ?_⟩
  rw [topsK_mem]
  constructor
  · rintro ⟨i, e, _, h1, h2, h3⟩; exact ⟨e, List.mem_of_getElem? h1, h2, h3⟩
  · rintro ⟨e, he, h2, h3⟩
    obtain ⟨i, hi⟩ := List.getElem?_of_mem he
    exact ⟨i, e, (List.getElem?_eq_some_iff.1 hi).1, hi, h2, h3⟩

/-! ### what is come to by a step at least -/
variable {E : ByteArray → ByteArray → Prop} {a : ByteArray} {O : List ByteArray} {i : Nat}
/-- O: what was found so far, each once; of the first i of a and O all that follow were found -/
structure BfR (E : ByteArray → ByteArray → Prop) (a : ByteArray) (O : List ByteArray) (i : Nat) : Prop where
  nodup : O.Nodup
  sound : ∀ x ∈ O, ∃ c, E a c ∧ Rch E c x
  le : i ≤ O.length + 1
  done : ∀ (j : Nat) (x : ByteArray), j < i → (a :: O)[j]? = some x → ∀ y, E x y → y ∈ O
def IsReach (E : ByteArray → ByteArray → Prop) (a : ByteArray) (O : List ByteArray) : Prop := O.Nodup ∧ ∀ y, y ∈ O ↔ ∃ c, E a c ∧ Rch E c y
theorem BfR.init : BfR E a [] 0 := ⟨by simp, fun x hx => by simp at hx, Nat.zero_le _, fun j x hj => absurd hj (Nat.not_lt_zero j)⟩
theorem BfR.put {x y : ByteArray} (h : BfR E a O i) (hx : x ∈ a :: O) (he : E x y) (hy : y ∉ O) : BfR E a (O ++ [y]) i := by
  refine ⟨?_, fun z hz => ?_, by have := h.le; simp; omega, fun k z hk hz u hu => ?_⟩
  · rw [List.nodup_append]
    refine ⟨h.nodup, by simp, ?_⟩
    intro u hu v hv e
    rw [List.mem_singleton] at hv
    subst hv; subst e
    exact hy hu
  · rw [List.mem_append, List.mem_singleton] at hz
    rcases hz with hz | rfl
    · exact h.sound z hz
    · rcases List.mem_cons.1 hx with rfl | hx
      · exact ⟨_, he, .refl⟩
      · obtain ⟨c, h1, h2⟩ := h.sound x hx
        exact ⟨c, h1, .step h2 he⟩
  · have := h.le
    rw [← List.cons_append, List.getElem?_append_left (by rw [List.length_cons]; omega)] at hz
    exact List.mem_append_left _ (h.done k z hk hz u hu)
theorem BfR.next {x : ByteArray} (h : BfR E a O i) (hx : (a :: O)[i]? = some x) (hs : ∀ y, E x y → y ∈ O) : BfR E a O (i + 1) := by
  refine ⟨h.nodup, h.sound, by have := (List.getElem?_eq_some_iff.1 hx).1; rw [List.length_cons] at this; omega, fun j z hj hz => ?_⟩
  by_cases e : j = i
  · subst e
    obtain rfl : x = z := Option.some.inj (hx.symm.trans hz)
    exact hs
  · exact h.done j z (by omega) hz
theorem BfR.all (h : BfR E a O i) (hi : O.length + 1 ≤ i) : IsReach E a O := by
  refine ⟨h.nodup, fun y => ⟨h.sound y, ?_⟩⟩
  rintro ⟨c, hc, hr⟩
  induction hr with
  | refl => exact h.done 0 a (by omega) rfl _ hc
  | step _ he ih =>
    obtain ⟨j, hj⟩ := List.getElem?_of_mem ih
    exact h.done (j + 1) _ (by have := (List.getElem?_eq_some_iff.1 hj).1; omega) (by simpa using hj) _ he
theorem BfR.mem (h : BfR E a O i) {U : List ByteArray} (hU : ∀ x y, E x y → y ∈ U) {x : ByteArray} (hx : x ∈ O) : x ∈ U := by
  obtain ⟨c, h1, h2⟩ := h.sound x hx
  cases h2 with
  | refl => exact hU _ _ h1
  | step _ he => exact hU _ _ he
theorem BfR.bound (h : BfR E a O i) {U : List ByteArray} (hU : ∀ x y, E x y → y ∈ U) : O.length ≤ U.length := nodup_le h.nodup fun _ hx => h.mem hU hx
theorem IsReach.rch (h : IsReach E a O) {b : ByteArray} : (a = b ∨ b ∈ O) ↔ Rch E a b := by
  rw [h.2]
  constructor
  · rintro (rfl | ⟨c, h1, h2⟩)
    · exact .refl
    · exact (Rch.step .refl h1).trans h2
  · exact Rch.cases_head
theorem IsReach.follow (h : IsReach E a O) : IsFollow E a (srt compareT (O.filter fun x => decide (¬ x = a))) := by
  refine ⟨srt_strict compareT_ord (h.1.filter _) fun x y _ _ e => compareT_zero.1 e, fun x => ?_⟩
  rw [srt_mem, List.mem_filter, decide_eq_true_eq, ← h.rch]
  constructor
  · rintro ⟨h1, h2⟩; exact ⟨h2, .inr h1⟩
  · rintro ⟨h1, h2 | h2⟩
    · exact absurd h2.symm h1
    · exact ⟨h2, h1⟩
end Go.Proofs.YtohngjkedhpikaaGreatDoor
/-
  KEYWORD, RS: the document's builder: the entries in a row, their topics and sees in rows of their own.
-/
namespace Go.Proofs.YtohngjkedhpikaaGreatDoor
open Go.RowKit Go.Maps
attribute [local go_sem] Old.refl Old.alloc Old.drew Old.setCell OldW.old

/-- a row of entries; whose block is whose: the row's own -1, of the i-th entry's topics 2 i, of its sees 2 i + 1 -/
structure BR (w0 w : World) (lv : Value) (t : List Er) (L : List En) (own : Nat → Option Int) : Prop where
  sz : w0.heap.size ≤ w.heap.size
  row : OwnS erE 45 w0 w lv t
  len : t.length = L.length
  base : ∀ g a, own g = some a → w0.heap.size ≤ g
  out : ∀ g, lv.ownBlock = some g → own g = some (-1)
  ent : ∀ (i : Nat) (x : Er) (e : En), t[i]? = some x → L[i]? = some e → x.term = e.term ∧ x.sub = e.sub ∧ OwnI 3 w0 w x.s2.v e.topics ∧ OwnS txE 9 w0 w x.s3.v e.sees ∧
    (∀ g, x.s2.v.ownBlock = some g → own g = some (2 * (i : Int))) ∧ ∀ g, x.s3.v.ownBlock = some g → own g = some (2 * (i : Int) + 1)
variable {w0 w W Z : World} {lv : Value} {t : List Er} {L : List En} {own : Nat → Option Int}
theorem ownsB_lt {base e size n : Nat} {v : Value} {xs : List Value} (h : w.ownsRow base e size v n xs) {g : Nat} (hg : v.ownBlock = some g) : g < w.heap.size := (World.ownsRow.lt h g hg).2
theorem OwnS.kx {α : Type} {c : Enc α} {E : TypeId} {v : Value} {l : List α} {X : Nat → Prop} (h : OwnS c E w0 w v l) (hk : KeptX X w W) (hX : ∀ g, v.ownBlock = some g → ¬ X g) : OwnS c E w0 W v l :=
  ownsRow_block h fun g hg => hk.block g (ownsB_lt h hg) (hX g hg)
theorem OwnI.kx {E : TypeId} {v : Value} {l : List Int} {X : Nat → Prop} (h : OwnI E w0 w v l) (hk : KeptX X w W) (hX : ∀ g, v.ownBlock = some g → ¬ X g) : OwnI E w0 W v l :=
  ownsRow_block h fun g hg => hk.block g (ownsB_lt h hg) (hX g hg)
theorem BR.nil (h : w0.heap.size ≤ w.heap.size) : BR w0 w (.slice none 0 0) [] [] (fun _ => none) where
  sz := h
  row := OwnS.nil _ _ _ _
  len := rfl
  base := fun _ _ h => by cases h
  out := fun g hg => by cases hg
  ent := fun i x e hx => by simp at hx
theorem BR.kx {X : Nat → Prop} (h : BR w0 w lv t L own) (hk : KeptX X w W) (hX : ∀ g, X g → own g = none) : BR w0 W lv t L own := by
  have no : ∀ {g : Nat} {a : Int}, own g = some a → ¬ X g := fun e x => by rw [hX _ x] at e; cases e
  refine ⟨Nat.le_trans h.sz hk.size, h.row.kx hk fun g hg => no (h.out g hg), h.len, h.base, h.out, fun i x e hx he => ?_⟩
  obtain ⟨h1, h2, h3, h4, h5, h6⟩ := h.ent i x e hx he
  exact ⟨h1, h2, h3.kx hk fun g hg => no (h5 g hg), h4.kx hk fun g hg => no (h6 g hg), h5, h6⟩
theorem BR.old (h : BR w0 w lv t L own) (o : Old w W) : BR w0 W lv t L own := h.kx (X := fun _ => False) (KeptX.of_old o) fun _ x => x.elim
/-- what is new is a's -/
def ownN (n : Nat) (a : Int) (own : Nat → Option Int) : Nat → Option Int := fun g => if n ≤ g then some a else own g
theorem ownN_old {n : Nat} {a : Int} {own : Nat → Option Int} {g : Nat} (h : g < n) : ownN n a own g = own g := if_neg (by omega)
theorem ownN_new {n : Nat} {a : Int} {own : Nat → Option Int} {g : Nat} (h : n ≤ g) : ownN n a own g = some a := if_pos h
theorem ownN_base {n m : Nat} {a : Int} {own : Nat → Option Int} (h : ∀ g b, own g = some b → m ≤ g) (hn : m ≤ n) : ∀ g b, ownN n a own g = some b → m ≤ g := fun g b e => by
  by_cases hg : n ≤ g
  · omega
  · rw [ownN_old (by omega)] at e; exact h g b e
/-- one more entry -/
theorem BR.app (h : BR w0 w lv t L own) (oZ : Old w Z) (hg : Z.grownBy W lv.ownBlock) {g cap m : Nat} {term sub : ByteArray}
    (hown : OwnS erE 45 w0 W (.slice (some ⟨g, 0, none⟩) m cap) (t ++ [⟨term, sub, (none, 0, 0), (none, 0, 0)⟩])) (hat : lv.ownBlock = some g ∨ g = Z.heap.size) :
    BR w0 W (.slice (some ⟨g, 0, none⟩) m cap) (t ++ [⟨term, sub, (none, 0, 0), (none, 0, 0)⟩]) (L ++ [⟨term, sub, [], []⟩]) (ownN w.heap.size (-1) own) := by
  have hs := oZ.size
  have hk : KeptX (fun g => own g = some (-1)) w W := (KeptX.of_old oZ).trans (KeptX.of_grown hg fun g e => h.out g e)
  refine ⟨Nat.le_trans h.sz hk.size, hown, by rw [List.length_append, List.length_append, h.len]; rfl, ownN_base h.base h.sz, fun j hj => ?_, fun i x e hx he => ?_⟩
  · obtain rfl : g = j := Option.some.inj hj
    rcases hat with h1 | h1
    · rw [ownN_old (ownsB_lt h.row h1)]; exact h.out g h1
    · exact ownN_new (by omega)
  · by_cases hi : i < t.length
    · rw [List.getElem?_append_left hi] at hx
      rw [List.getElem?_append_left (by have := h.len; omega)] at he
      obtain ⟨h1, h2, h3, h4, h5, h6⟩ := h.ent i x e hx he
      refine ⟨h1, h2, h3.kx hk fun j hj k => ?_, h4.kx hk fun j hj k => ?_, fun j hj => ?_, fun j hj => ?_⟩
      · rw [h5 j hj] at k; have := Option.some.inj k; omega
      · rw [h6 j hj] at k; have := Option.some.inj k; omega
      · rw [ownN_old (ownsB_lt h3 hj)]; exact h5 j hj
      · rw [ownN_old (ownsB_lt h4 hj)]; exact h6 j hj
    · rw [List.getElem?_append_right (by omega)] at hx
      rw [List.getElem?_append_right (by have := h.len; omega)] at he
      have hlen := h.len
      obtain rfl : i = t.length := by have := (List.getElem?_eq_some_iff.1 hx).1; simp at this; omega
      rw [Nat.sub_self] at hx
      rw [hlen, Nat.sub_self] at he
      obtain rfl : _ = x := Option.some.inj hx
      obtain rfl : _ = e := Option.some.inj he
      exact ⟨rfl, rfl, OwnI.nil _ _ _, OwnS.nil _ _ _ _, fun j hj => by simp [Sl.v, Value.ownBlock] at hj, fun j hj => by simp [Sl.v, Value.ownBlock] at hj⟩
theorem set_at {α : Type} {l : List α} {i j : Nat} {x y z : α} (hx : l[i]? = some x) (h : (l.set i y)[j]? = some z) : (i = j ∧ z = y) ∨ (i ≠ j ∧ l[j]? = some z) := by
  rw [List.getElem?_set] at h
  by_cases e : i = j
  · subst e
    rw [if_pos rfl, if_pos (List.getElem?_eq_some_iff.1 hx).1] at h
    exact .inl ⟨rfl, (Option.some.inj h).symm⟩
  · rw [if_neg e] at h
    exact .inr ⟨e, h⟩
/-- the i-th entry's topics grow -/
theorem BR.putT {go n cap : Nat} (h : BR w0 w (.slice (some ⟨go, 0, none⟩) n cap) t L own) {i : Nat} {x : Er} {e : En} (hx : t[i]? = some x) (he : L[i]? = some e)
    (hk : KeptX (fun g => own g = some (2 * (i : Int)) ∨ w.heap.size ≤ g) w W) {s : Sl} {T : List Int} (hs : OwnI 3 w0 W s.v T) (hb : ∀ g, s.v.ownBlock = some g → g < w.heap.size → own g = some (2 * (i : Int))) :
    BR w0 (W.setCell ⟨go, i * 4 + 2, none⟩ s.v) (.slice (some ⟨go, 0, none⟩) n cap) (t.set i { x with s2 := s }) (L.set i { e with topics := T }) (ownN w.heap.size (2 * (i : Int)) own) := by
  have hgo := h.out go rfl
  have hgl : go < w.heap.size := ownsB_lt h.row rfl
  have kx : ∀ {b : Int} {g : Nat}, own g = some b → b ≠ 2 * (i : Int) → g < w.heap.size → ¬ (own g = some (2 * (i : Int)) ∨ w.heap.size ≤ g) := fun e hb hg k => by
    rcases k with k | k
    · rw [e] at k; exact hb (Option.some.inj k)
    · omega
  have hrow : OwnS erE 45 w0 W (.slice (some ⟨go, 0, none⟩) n cap) t := h.row.kx hk fun g hg => kx (h.out g hg) (by omega) (ownsB_lt h.row hg)
  have ks := KeptX.setCell (X := fun j => j = go) W go (i * 4 + 2) s.v rfl
  have hsg : ∀ g, s.v.ownBlock = some g → g ≠ go := fun g hg e => by
    subst e
    have := hb g hg hgl
    rw [hgo] at this
    have := Option.some.inj this
    omega
  refine ⟨Nat.le_trans h.sz (Nat.le_trans hk.size ks.size), hrow.stored hx (show 2 < 4 by omega) rfl, by rw [List.length_set, List.length_set, h.len], ownN_base h.base h.sz, fun g hg => ?_, fun j y f hy hf => ?_⟩
  · rw [ownN_old (ownsB_lt h.row hg)]; exact h.out g hg
  · rcases set_at hx hy with ⟨rfl, rfl⟩ | ⟨hne, hy⟩
    · rcases set_at he hf with ⟨_, rfl⟩ | ⟨hne, _⟩
      · obtain ⟨h1, h2, h3, h4, h5, h6⟩ := h.ent i x e hx he
        refine ⟨h1, h2, hs.kx ks hsg, (h4.kx hk fun g hg => kx (h6 g hg) (by omega) (ownsB_lt h4 hg)).kx ks fun g hg e => ?_, fun g hg => ?_, fun g hg => ?_⟩
        · subst e; rw [h6 g hg] at hgo; have := Option.some.inj hgo; omega
        · by_cases hw : g < w.heap.size
          · rw [ownN_old hw]; exact hb g hg hw
          · exact ownN_new (by omega)
        · rw [ownN_old (ownsB_lt h4 hg)]; exact h6 g hg
      · exact absurd rfl hne
    · rcases set_at he hf with ⟨e', _⟩ | ⟨_, hf⟩
      · exact absurd e' hne
      · obtain ⟨h1, h2, h3, h4, h5, h6⟩ := h.ent j y f hy hf
        refine ⟨h1, h2, (h3.kx hk fun g hg => kx (h5 g hg) (by omega) (ownsB_lt h3 hg)).kx ks fun g hg e => ?_, (h4.kx hk fun g hg => kx (h6 g hg) (by omega) (ownsB_lt h4 hg)).kx ks fun g hg e => ?_, fun g hg => ?_, fun g hg => ?_⟩
        · subst e; rw [h5 g hg] at hgo; have := Option.some.inj hgo; omega
        · subst e; rw [h6 g hg] at hgo; have := Option.some.inj hgo; omega
        · rw [ownN_old (ownsB_lt h3 hg)]; exact h5 g hg
        · rw [ownN_old (ownsB_lt h4 hg)]; exact h6 g hg
/-- the i-th entry's sees grow -/
theorem BR.putS {go n cap : Nat} (h : BR w0 w (.slice (some ⟨go, 0, none⟩) n cap) t L own) {i : Nat} {x : Er} {e : En} (hx : t[i]? = some x) (he : L[i]? = some e)
    (hk : KeptX (fun g => own g = some (2 * (i : Int) + 1) ∨ w.heap.size ≤ g) w W) {s : Sl} {T : List ByteArray} (hs : OwnS txE 9 w0 W s.v T) (hb : ∀ g, s.v.ownBlock = some g → g < w.heap.size → own g = some (2 * (i : Int) + 1)) :
    BR w0 (W.setCell ⟨go, i * 4 + 3, none⟩ s.v) (.slice (some ⟨go, 0, none⟩) n cap) (t.set i { x with s3 := s }) (L.set i { e with sees := T }) (ownN w.heap.size (2 * (i : Int) + 1) own) := by
  have hgo := h.out go rfl
  have hgl : go < w.heap.size := ownsB_lt h.row rfl
  have kx : ∀ {b : Int} {g : Nat}, own g = some b → b ≠ 2 * (i : Int) + 1 → g < w.heap.size → ¬ (own g = some (2 * (i : Int) + 1) ∨ w.heap.size ≤ g) := fun e hb hg k => by
    rcases k with k | k
    · rw [e] at k; exact hb (Option.some.inj k)
    · omega
  have hrow : OwnS erE 45 w0 W (.slice (some ⟨go, 0, none⟩) n cap) t := h.row.kx hk fun g hg => kx (h.out g hg) (by omega) (ownsB_lt h.row hg)
  have ks := KeptX.setCell (X := fun j => j = go) W go (i * 4 + 3) s.v rfl
  have hsg : ∀ g, s.v.ownBlock = some g → g ≠ go := fun g hg e => by
    subst e
    have := hb g hg hgl
    rw [hgo] at this
    have := Option.some.inj this
    omega
  refine ⟨Nat.le_trans h.sz (Nat.le_trans hk.size ks.size), hrow.stored hx (show 3 < 4 by omega) rfl, by rw [List.length_set, List.length_set, h.len], ownN_base h.base h.sz, fun g hg => ?_, fun j y f hy hf => ?_⟩
  · rw [ownN_old (ownsB_lt h.row hg)]; exact h.out g hg
  · rcases set_at hx hy with ⟨rfl, rfl⟩ | ⟨hne, hy⟩
    · rcases set_at he hf with ⟨_, rfl⟩ | ⟨hne, _⟩
      · obtain ⟨h1, h2, h3, h4, h5, h6⟩ := h.ent i x e hx he
        refine ⟨h1, h2, (h3.kx hk fun g hg => kx (h5 g hg) (by omega) (ownsB_lt h3 hg)).kx ks fun g hg e => ?_, hs.kx ks hsg, fun g hg => ?_, fun g hg => ?_⟩
        · subst e; rw [h5 g hg] at hgo; have := Option.some.inj hgo; omega
        · rw [ownN_old (ownsB_lt h3 hg)]; exact h5 g hg
        · by_cases hw : g < w.heap.size
          · rw [ownN_old hw]; exact hb g hg hw
          · exact ownN_new (by omega)
      · exact absurd rfl hne
    · rcases set_at he hf with ⟨e', _⟩ | ⟨_, hf⟩
      · exact absurd e' hne
      · obtain ⟨h1, h2, h3, h4, h5, h6⟩ := h.ent j y f hy hf
        refine ⟨h1, h2, (h3.kx hk fun g hg => kx (h5 g hg) (by omega) (ownsB_lt h3 hg)).kx ks fun g hg e => ?_, (h4.kx hk fun g hg => kx (h6 g hg) (by omega) (ownsB_lt h4 hg)).kx ks fun g hg e => ?_, fun g hg => ?_, fun g hg => ?_⟩
        · subst e; rw [h5 g hg] at hgo; have := Option.some.inj hgo; omega
        · subst e; rw [h6 g hg] at hgo; have := Option.some.inj hgo; omega
        · rw [ownN_old (ownsB_lt h3 hg)]; exact h5 g hg
        · rw [ownN_old (ownsB_lt h4 hg)]; exact h6 g hg
theorem BR.ents (h : BR w0 w lv t L own) : Ents w lv L := by
  refine ⟨t, h.row.recs, h.len, fun i x e hx he => ?_⟩
  obtain ⟨h1, h2, h3, h4, _⟩ := h.ent i x e hx he
  exact ⟨h1, h2, h3.ints, Txts.of_recs h4.recs⟩
end Go.Proofs.YtohngjkedhpikaaGreatDoor
/-
  APPEND TO A NIL SLICE, whatever is appended (a copy): as one step; over no program.
-/
namespace Go.Proofs.YtohngjkedhpikaaGreatDoor
open Go.RowKit
section
variable {α : Type} {c : Enc α} {P : Program} {ops : Array Oper} {rest : List Oper} {o : Oper} {a : Act} {Q : Exit → Act → World → Prop}
theorem run_append_copy {w : World} (T ty E : TypeId) (ht : P.underlying T = some (.slice E)) (z : Value) {bytes : Nat} (hinfo : (P.info? E).map (fun i => (i.zero, i.size, i.bytes)) = some (some z, c.k, bytes)) (hzs : z.cells.size = c.k) (hsz : 0 < c.k)
    (vx : Value) (u : List α) (hu : Recs c w vx u) (h63 : u.length ≤ 9223372036854775807) (hbytes : u.length * bytes ≤ 140737488355328) :
    ∃ v' w', (Builtin.append_ #[T, T] ty #[.slice none 0 0, vx]).run P w = .ok v' w' ∧ OwnS c E w w' v' u ∧ Old w w' := by
  obtain ⟨ao, cap, b, off, rfl, hn1, hn2, ha, ht0⟩ := hu
  obtain ⟨i, hi, hz0, hz1, hz2⟩ := info_parts hinfo
  have key : ∀ ad, (∀ j x, (c.all u)[j]? = some x → w.cell? (ad.add j) = some x) → ∃ v' w', (Builtin.append_ #[T, T] ty #[.slice none 0 0, .slice (some ad) u.length cap]).run P w = .ok v' w' ∧ OwnS c E w w' v' u ∧ Old w w' := fun ad hn => by
    obtain ⟨v', w', h1, h2, h3, _⟩ := run_append_own (P := P) w w.heap.size T ty E i z c.k bytes ht hi hz0 hz1 hz2 hzs hsz (.slice none 0 0) 0 [] (World.ownsRow_nil w _ E c.k) ad u.length cap (c.all u) (Enc.all_length u) hn (Enc.cells_one u) (by simpa [maxLen] using h63) (by simpa using hbytes) (Nat.le_refl _)
    refine ⟨v', w', h1, ?_, (Old.refl w).grown h3 fun k e => by simp [Value.ownBlock] at e⟩
    unfold OwnS
    simpa using h2
  by_cases hm : 0 < u.length
  · obtain rfl := ha hm
    exact key _ (Recs.cells ht0 (Old.refl w))
  · have hu0 : u = [] := List.eq_nil_of_length_eq_zero (by omega)
    subst hu0
    cases ao with
    | some ad => exact key ad (by simp [Enc.all])
    | none =>
      refine ⟨.slice none 0 0, w, ?_, OwnS.nil _ _ _ _, Old.refl w⟩
      simp [Builtin.append_, run_underlying ht, sizeOf, typeInfo, hi, Builtin.lenOf, Builtin.firstCells]
theorem step_append_copy {w : World} {K : Act → World → Prop} {E' : Prop} (hgd : o.guard = none) (x : Operand) (T : TypeId) (ho : o.op = .call { callee := .builtin .append, args := #[.const (.slice none 0 0), x], argTypes := #[T, T] })
    (E : TypeId) (ht : P.underlying T = some (.slice E)) (z : Value) {bytes : Nat} (hinfo : (P.info? E).map (fun i => (i.zero, i.size, i.bytes)) = some (some z, c.k, bytes)) (hzs : z.cells.size = c.k) (hsz : 0 < c.k)
    (vx : Value) (u : List α) (hx : a.eval x = vx) (hu : Recs c w vx u) (h63 : u.length ≤ 9223372036854775807) (hbytes : u.length * bytes ≤ 140737488355328)
    (h : ∀ v' w', OwnS c E w w' v' u → Old w w' → K (a.put o.dst v') w') : if Region.wanted o (yielded ops a.tmps) = true then Oper.wp P o a w K Q else E' := by
  have hw : Region.wanted o (yielded ops a.tmps) = true := by simp [Region.wanted, hgd]
  rw [if_pos hw]
  obtain ⟨v', w', hr, h2, h3⟩ := run_append_copy (P := P) (w := w) T o.type E ht z hinfo hzs hsz vx u hu h63 hbytes
  unfold Oper.wp execOp
  have hc : a.eval (.const (.slice none 0 0)) = .slice none 0 0 := rfl
  simp only [ho, resolve, invoke, builtin, Sem.run_bind, Sem.run_pure, Result.andThen_ok, List.map_toArray, List.map_cons, List.map_nil, hc, hx, hr]
  exact h v' w' h2 h3
end
end Go.Proofs.YtohngjkedhpikaaGreatDoor
/-
  KEYWORD, TW: the statements' twin: entries in new memory.
-/
namespace Go.Proofs.YtohngjkedhpikaaGreatDoor
open Go.RowKit Go.Maps
attribute [local go_sem] Old.refl Old.alloc Old.drew Old.setCell OldW.old

theorem grown_cellT {w W : World} {row : Option Nat} (hg : w.grownBy W row) {p : Addr} {v : Value} (hc : w.cell? p = some v) (hr : ∀ j, row = some j → j ≠ p.block) : W.cell? p = some v := by
  have hl := World.block_lt_of_cell? w p hc
  have hb := hg.block _ hl fun e => hr _ e.symm rfl
  rw [← hc]
  unfold World.cell?
  rw [hb]
theorem infoEnT : (Tryz.prog.info? 45).map (fun i => (i.zero, i.size, i.bytes)) = some (some (.agg #[.string ⟨#[]⟩, .string ⟨#[]⟩, .slice none 0 0, .slice none 0 0]), 4, 80) := by kernel_rfl
/-- entries copied so far: their rows are apart from the row of entries -/
structure TW (w wx : World) (ov : Value) (t : List Er) (L : List En) : Prop where
  old : Old w wx
  row : OwnS erE 45 w wx ov t
  len : t.length = L.length
  ent : ∀ (i : Nat) (x : Er) (e : En), t[i]? = some x → L[i]? = some e → x.term = e.term ∧ x.sub = e.sub ∧ OwnI 3 w wx x.s2.v e.topics ∧ OwnS txE 9 w wx x.s3.v e.sees ∧
    (∀ g, x.s2.v.ownBlock = some g → ov.ownBlock ≠ some g) ∧ ∀ g, x.s3.v.ownBlock = some g → ov.ownBlock ≠ some g
variable {w wx Z W : World} {ov : Value} {t : List Er} {L : List En}
theorem TW.nil (w : World) : TW w w (.slice none 0 0) [] [] where
  old := Old.refl w
  row := OwnS.nil _ _ _ _
  len := rfl
  ent := fun i x e hx => by simp at hx
theorem TW.app (h : TW w wx ov t L) {x : Er} {e : En} (h1 : x.term = e.term) (h2 : x.sub = e.sub) (h3 : OwnI 3 wx Z x.s2.v e.topics) (h4 : OwnS txE 9 wx Z x.s3.v e.sees) (oZ : Old wx Z)
    (hg : Z.grownBy W ov.ownBlock) {g cap m : Nat} (hown : OwnS erE 45 w W (.slice (some ⟨g, 0, none⟩) m cap) (t ++ [x])) (hat : ov.ownBlock = some g ∨ g = Z.heap.size) :
    TW w W (.slice (some ⟨g, 0, none⟩) m cap) (t ++ [x]) (L ++ [e]) := by
  have hb : ∀ j, ov.ownBlock = some j → j < wx.heap.size := fun j hj => (World.ownsRow.lt h.row j hj).2
  have hs := oZ.size
  have hO := h.old.size
  have keep : ∀ {v : Value} {xs : List Value} {E size n : Nat}, Z.ownsRow w.heap.size E size v n xs → (∀ j, v.ownBlock = some j → ov.ownBlock ≠ some j) → W.ownsRow w.heap.size E size v n xs := fun {v xs E size n} hr hne => by
    refine World.ownsRow.kept hr hg ?_
    cases hv : v.ownBlock with
    | none => exact .inl rfl
    | some j => exact .inr fun e => hne j hv e.symm
  refine ⟨(h.old.trans oZ).grown hg fun k e => (World.ownsRow.lt h.row k e).1, hown, by rw [List.length_append, List.length_append, h.len]; rfl, fun i y f hy hf => ?_⟩
  by_cases hi : i < t.length
  · rw [List.getElem?_append_left hi] at hy
    rw [List.getElem?_append_left (by have := h.len; omega)] at hf
    obtain ⟨a1, a2, a3, a4, a5, a6⟩ := h.ent i y f hy hf
    have l3 : ∀ j, y.s2.v.ownBlock = some j → j < wx.heap.size := fun j hj => (World.ownsRow.lt a3 j hj).2
    have l4 : ∀ j, y.s3.v.ownBlock = some j → j < wx.heap.size := fun j hj => (World.ownsRow.lt a4 j hj).2
    refine ⟨a1, a2, keep (OwnI.old a3 oZ) a5, keep (OwnS.old a4 oZ) a6, fun j hj e => ?_, fun j hj e => ?_⟩
    · obtain rfl : g = j := Option.some.inj e
      rcases hat with k | k
      · exact a5 g hj k
      · have := l3 g hj; omega
    · obtain rfl : g = j := Option.some.inj e
      rcases hat with k | k
      · exact a6 g hj k
      · have := l4 g hj; omega
  · have hl := h.len
    have hil : i = t.length := by
      have := (List.getElem?_eq_some_iff.1 hy).1
      simp at this
      omega
    rw [hil, List.getElem?_append_right (Nat.le_refl _), Nat.sub_self] at hy
    rw [hil, hl, List.getElem?_append_right (Nat.le_refl _), Nat.sub_self] at hf
    obtain rfl : x = y := Option.some.inj hy
    obtain rfl : e = f := Option.some.inj hf
    have l3 : ∀ j, x.s2.v.ownBlock = some j → wx.heap.size ≤ j ∧ j < Z.heap.size := fun j hj => World.ownsRow.lt h3 j hj
    have l4 : ∀ j, x.s3.v.ownBlock = some j → wx.heap.size ≤ j ∧ j < Z.heap.size := fun j hj => World.ownsRow.lt h4 j hj
    refine ⟨h1, h2, keep (OwnI.lower h3 hO) (fun j hj e => ?_), keep (OwnS.lower h4 hO) (fun j hj e => ?_), fun j hj e => ?_, fun j hj e => ?_⟩
    · have := hb j e; have := (l3 j hj).1; omega
    · have := hb j e; have := (l4 j hj).1; omega
    · obtain rfl : g = j := Option.some.inj e
      have a := l3 g hj
      rcases hat with k | k
      · have := hb g k; omega
      · omega
    · obtain rfl : g = j := Option.some.inj e
      have a := l4 g hj
      rcases hat with k | k
      · have := hb g k; omega
      · omega
theorem TW.ents (h : TW w wx ov t L) : Ents wx ov L := by
  refine ⟨t, h.row.recs, h.len, fun i x e hx he => ?_⟩
  obtain ⟨h1, h2, h3, h4, _⟩ := h.ent i x e hx he
  exact ⟨h1, h2, h3.ints, Txts.of_recs h4.recs⟩
theorem Ints.recsI {w : World} {v : Value} {l : List Int} (h : Ints w v l) : Recs intE w v l := by
  obtain ⟨a, cap, b, off, e, h1, h2, h3, h4⟩ := h
  refine ⟨a, cap, b, off, e, h1, h2, h3, fun j u hu W hW => ?_⟩
  rw [intE_all, List.getElem?_map, Option.map_eq_some_iff] at hu
  obtain ⟨x, hx, rfl⟩ := hu
  rw [h4 j (List.getElem?_eq_some_iff.1 hx).1 W hW]
  unfold ix
  simp [List.getD, hx]
set_option maxRecDepth 100000 in
set_option maxHeartbeats 3200000 in
theorem twin_any (v : Value) (l : List En) (w : World) (hv : Ents w v l) (hl : l.length ≤ 1000000) (hlen : ∀ e ∈ l, e.topics.length ≤ 1000000 ∧ e.sees.length ≤ 1000000) :
    Calls Tryz.prog 24 #[v] w fun e w' => (∃ u, e = .returned u ∧ Ents w' u l) ∧ Old w w' := by
  obtain ⟨sa, cap, rfl, hc1, hc2⟩ := Seqs.form hv
  obtain ⟨b, off, hea, heat⟩ := Ents.open hv
  have Hea := Lib.hid hea
  have Heat := Lib.hid heat
  have Hlen := Lib.hid hlen
  clear hv hea heat hlen
  go_enter Tryz.func24, Tryz.ntmps24
  go_upto_region 3 with fail
  go_loopw [3, 8] (fun ov jv wx => ∃ (i : Nat) (t : List Er), jv = .int .i64 i ∧ i ≤ l.length ∧ TW w wx ov t (l.take i)) (fun _ jv _ => l.length - (intOf jv).toNat)
  case atStart => exact ⟨0, [], rfl, Nat.zero_le _, TW.nil w⟩
  case round =>
    obtain ⟨i, t, rfl, hi, hTW⟩ := hrel
    obtain ⟨ov, hov⟩ : ∃ x, x = u3 := ⟨u3, rfl⟩
    subst hov
    have HTW := Lib.hid hTW
    have ho := Lib.hid hTW.old
    have htl : t.length = i := by rw [hTW.len, List.length_take]; omega
    clear hTW
    by_cases hlt : i < l.length
    · have hi1 : (i : Int) < l.length := by omega
      obtain ⟨e, he⟩ : ∃ e, l[i]? = some e := ⟨_, List.getElem?_eq_getElem hlt⟩
      obtain ⟨a2, c2, a3, c3, hcs, hIs, hts⟩ := Heat.out i e he
      obtain rfl := Hea.out (by omega)
      obtain ⟨hl2, hl3⟩ := Hlen.out e (List.mem_of_getElem? he)
      have c0 : ∀ V, Old wr V → V.cell? ⟨b, off + i * 4, none⟩ = some (.string e.term) := fun V o => (hcs V (ho.out.trans o)).1
      have c1 : ∀ V, Old wr V → V.cell? ⟨b, off + i * 4 + 1, none⟩ = some (.string e.sub) := fun V o => (hcs V (ho.out.trans o)).2.1
      have c2' : ∀ V, Old wr V → V.cell? ⟨b, off + i * 4 + 2, none⟩ = some (.slice a2 e.topics.length c2) := fun V o => (hcs V (ho.out.trans o)).2.2.1
      have c3' : ∀ V, Old wr V → V.cell? ⟨b, off + i * 4 + 3, none⟩ = some (.slice a3 e.sees.length c3) := fun V o => (hcs V (ho.out.trans o)).2.2.2
      have Htk : Hid (l.take (i + 1) = l.take i ++ [e]) := Lib.hid (by rw [List.take_add_one, he]; rfl)
      have oa : Old wr (wr.alloc (.cells #[.string e.term, .string e.sub, .slice a2 e.topics.length c2, .slice a3 e.sees.length c3] 45)) := (Old.refl wr).alloc _
      have HIs := Lib.hid (fun V (o : Old (wr.alloc (.cells #[.string e.term, .string e.sub, .slice a2 e.topics.length c2, .slice a3 e.sees.length c3] 45)) V) => (hIs.old (ho.out.trans (oa.trans o))).recsI)
      have HTs := Lib.hid (fun V (o : Old (wr.alloc (.cells #[.string e.term, .string e.sub, .slice a2 e.topics.length c2, .slice a3 e.sees.length c3] 45)) V) => (hts.old (ho.out.trans (oa.trans o))).recs)
      have hnb : ∀ j, ov.ownBlock = some j → j ≠ wr.heap.size := fun j hj => by have := (World.ownsRow.lt HTW.out.row j hj).2; omega
      have HTB : Hid (TW w (wr.alloc (.cells #[.string e.term, .string e.sub, .slice a2 e.topics.length c2, .slice a3 e.sees.length c3] 45)) ov t (l.take i)) := Lib.hid ⟨HTW.out.old.trans oa, HTW.out.row.old oa, HTW.out.len, fun i x e hx he => by
        obtain ⟨h1, h2, h3, h4, h5⟩ := HTW.out.ent i x e hx he
        exact ⟨h1, h2, h3.old oa, h4.old oa, h5⟩⟩
      clear hcs hIs hts he HTW
      go_upto_region 5 with fail
      have d0 := later (show (wr.alloc (.cells #[.string e.term, .string e.sub, .slice a2 e.topics.length c2, .slice a3 e.sees.length c3] 45)).cell? ⟨wr.heap.size, 0, none⟩ = some (.string e.term) by simp [go_sem])
      have d1 := later (show (wr.alloc (.cells #[.string e.term, .string e.sub, .slice a2 e.topics.length c2, .slice a3 e.sees.length c3] 45)).cell? ⟨wr.heap.size, 1, none⟩ = some (.string e.sub) by simp [go_sem])
      have d2 := later (show (wr.alloc (.cells #[.string e.term, .string e.sub, .slice a2 e.topics.length c2, .slice a3 e.sees.length c3] 45)).cell? ⟨wr.heap.size, 2, none⟩ = some (.slice a2 e.topics.length c2) by simp [go_sem])
      have d3 := later (show (wr.alloc (.cells #[.string e.term, .string e.sub, .slice a2 e.topics.length c2, .slice a3 e.sees.length c3] 45)).cell? ⟨wr.heap.size, 3, none⟩ = some (.slice a3 e.sees.length c3) by simp [go_sem])
      generalize wr.alloc (.cells #[.string e.term, .string e.sub, .slice a2 e.topics.length c2, .slice a3 e.sees.length c3] 45) = wB at *
      generalize wr.heap.size = g5 at *
      clear c0 c1 c2' c3' oa
      have h0 : Old wB wB.drew := (Old.refl wB).drew
      have HO := h0
      go_region_held3 (fun w' => w'.cell? ⟨g5, 0, none⟩ = some (.string e.term) ∧ w'.cell? ⟨g5, 1, none⟩ = some (.string e.sub) ∧ w'.cell? ⟨g5, 2, none⟩ = some (.slice a2 e.topics.length c2) ∧ w'.cell? ⟨g5, 3, none⟩ = some (.slice a3 e.sees.length c3)) (first | with_reducible exact ⟨d0 _ HO, d1 _ HO, d2 _ HO, d3 _ HO⟩ | go_keep | exact HS6) (first
        | (refine step_append_copy (c := intE) (w := wB.drew) (by rfl) _ 42 (by rfl) 3 Tryz.underlying42 (.int .i64 0) infoIntK rfl (Nat.zero_lt_succ 0) _ e.topics (by rfl) (HIs.out _ h0) (by omega) (by omega) ?_; intro vT wT hownT hoT; obtain ⟨aT, cT, rfl, _, _⟩ := hownT.form; have h0T := h0.trans hoT; have HO := h0T; have HT1 := Lib.hid hownT; clear hownT)
        | (refine step_append_copy (c := txE) (w := wT) (by rfl) _ 43 (by rfl) 9 Tryz.underlying43 (.string ⟨#[]⟩) infoStrK rfl (Nat.zero_lt_succ 0) _ e.sees (by rfl) (HTs.out _ h0T) (by omega) (by omega) ?_; intro vS2 wS2 hownS2 hoS2; obtain ⟨aS2, cS2, rfl, _, _⟩ := hownS2.form; have h0S2 := h0T.trans hoS2; have HO := h0S2; have HS2 := Lib.hid hownS2; clear hownS2)
        | (refine step_append_copy (c := txE) (w := wB.drew) (by rfl) _ 43 (by rfl) 9 Tryz.underlying43 (.string ⟨#[]⟩) infoStrK rfl (Nat.zero_lt_succ 0) _ e.sees (by rfl) (HTs.out _ h0) (by omega) (by omega) ?_; intro vS wS hownS hoS; obtain ⟨aS, cS, rfl, _, _⟩ := hownS.form; have h0S := h0.trans hoS; have HO := h0S; have HS1 := Lib.hid hownS; clear hownS)
        | (refine step_append_copy (c := intE) (w := wS) (by rfl) _ 42 (by rfl) 3 Tryz.underlying42 (.int .i64 0) infoIntK rfl (Nat.zero_lt_succ 0) _ e.topics (by rfl) (HIs.out _ h0S) (by omega) (by omega) ?_; intro vT2 wT2 hownT2 hoT2; obtain ⟨aT2, cT2, rfl, _, _⟩ := hownT2.form; have h0T2 := h0S.trans hoT2; have HO := h0T2; have HT2 := Lib.hid hownT2; clear hownT2)
        | (refine step_append_at (c := erE) (w0 := w) (by rfl) _ _ 25 (by rfl) 45 Tryz.underlying25 _ infoEnT rfl (Nat.zero_lt_succ 3) ov t [⟨e.term, e.sub, (aT, e.topics.length, cT), (aS2, e.sees.length, cS2)⟩] (by rfl) (HTB.out.row.old (h0S2.alloc (.cells (erE.enc ⟨e.term, e.sub, (aT, e.topics.length, cT), (aS2, e.sees.length, cS2)⟩).toArray 45))) _ (by rfl) (Recs.oneAt (c := erE) wS2 45 ⟨e.term, e.sub, (aT, e.topics.length, cT), (aS2, e.sees.length, cS2)⟩ rfl) (Nat.zero_lt_succ 0) (by simp; omega) (by simp; omega) (Nat.le_trans HTB.out.old.size (h0S2.alloc (.cells (erE.enc ⟨e.term, e.sub, (aT, e.topics.length, cT), (aS2, e.sees.length, cS2)⟩).toArray 45)).size) ?_; intro g6 cp6 w6 hown6 hg6 hat6 hlt6; have HTW6 := Lib.hid (HTB.out.app (x := ⟨e.term, e.sub, (aT, e.topics.length, cT), (aS2, e.sees.length, cS2)⟩) (e := e) rfl rfl (ownI_iff.1 (((HT1.out.old hoS2).alloc _).lower h0.size)) ((HS2.out.alloc _).lower h0T.size) (h0S2.alloc _) hg6 hown6 hat6); have HS6 := And.intro (grown_cellT hg6 (d0 _ (h0S2.alloc _)) hnb) (And.intro (grown_cellT hg6 (d1 _ (h0S2.alloc _)) hnb) (And.intro (grown_cellT hg6 (d2 _ (h0S2.alloc _)) hnb) (grown_cellT hg6 (d3 _ (h0S2.alloc _)) hnb))); clear hown6 hg6 hat6 hlt6)
        | (refine step_append_at (c := erE) (w0 := w) (by rfl) _ _ 25 (by rfl) 45 Tryz.underlying25 _ infoEnT rfl (Nat.zero_lt_succ 3) ov t [⟨e.term, e.sub, (aT2, e.topics.length, cT2), (aS, e.sees.length, cS)⟩] (by rfl) (HTB.out.row.old (h0T2.alloc (.cells (erE.enc ⟨e.term, e.sub, (aT2, e.topics.length, cT2), (aS, e.sees.length, cS)⟩).toArray 45))) _ (by rfl) (Recs.oneAt (c := erE) wT2 45 ⟨e.term, e.sub, (aT2, e.topics.length, cT2), (aS, e.sees.length, cS)⟩ rfl) (Nat.zero_lt_succ 0) (by simp; omega) (by simp; omega) (Nat.le_trans HTB.out.old.size (h0T2.alloc (.cells (erE.enc ⟨e.term, e.sub, (aT2, e.topics.length, cT2), (aS, e.sees.length, cS)⟩).toArray 45)).size) ?_; intro g7 cp7 w7 hown7 hg7 hat7 hlt7; have HTW7 := Lib.hid (HTB.out.app (x := ⟨e.term, e.sub, (aT2, e.topics.length, cT2), (aS, e.sees.length, cS)⟩) (e := e) rfl rfl (ownI_iff.1 ((HT2.out.alloc _).lower h0S.size)) (((HS1.out.old hoT2).alloc _).lower h0.size) (h0T2.alloc _) hg7 hown7 hat7); have HS6 := And.intro (grown_cellT hg7 (d0 _ (h0T2.alloc _)) hnb) (And.intro (grown_cellT hg7 (d1 _ (h0T2.alloc _)) hnb) (And.intro (grown_cellT hg7 (d2 _ (h0T2.alloc _)) hnb) (grown_cellT hg7 (d3 _ (h0T2.alloc _)) hnb))); clear hown7 hg7 hat7 hlt7)
        | fail)
      all_goals
        go_wp2_with fail
        go_roundw
        case rel => first
          | exact ⟨i + 1, t ++ [⟨e.term, e.sub, (aT, e.topics.length, cT), (aS2, e.sees.length, cS2)⟩], by go_num, by omega, by rw [Htk.out]; have := HTW6.out; rw [htl] at this; exact this⟩
          | exact ⟨i + 1, t ++ [⟨e.term, e.sub, (aT2, e.topics.length, cT2), (aS, e.sees.length, cS)⟩], by go_num, by omega, by rw [Htk.out]; have := HTW7.out; rw [htl] at this; exact this⟩
        case measure => simp [intOf]; omega
    · obtain rfl : i = l.length := by omega
      have hi1 : ¬ (l.length : Int) < l.length := by omega
      rw [List.take_length] at HTW
      go_wp2_with fail
      go_ret
      exact ⟨⟨_, rfl, HTW.out.ents⟩, ho.out⟩
end Go.Proofs.YtohngjkedhpikaaGreatDoor
