/-
  KEYWORD, RE, PLAIN: what is come to by a step at least; what is put in its place from the end on; over no program.
-/
import Derived.Test.YtohngjkedhpikaaGreatDoorZMapsV
namespace Go.Proofs.YtohngjkedhpikaaGreatDoor

theorem str_bne {a b : ByteArray} (h : ¬ a = b) : (a.toList != b.toList) = true := by unfold bne; rw [str_beq]; simp [h]
theorem str_bnn {a b : ByteArray} (h : a = b) : (a.toList != b.toList) = false := by unfold bne; rw [str_beq]; simp [h]
theorem str_eqf {a b : ByteArray} (h : ¬ a = b) : (a.toList == b.toList) = false := by rw [str_beq]; simp [h]
theorem str_eqt {a b : ByteArray} (h : a = b) : (a.toList == b.toList) = true := by rw [str_beq]; simp [h]
/-! ### put in its place, from the end on -/
theorem insA_pass {α : Type} {c : α → α → Int} {x : α} : ∀ {R Q : List α}, (∀ y ∈ R, 0 < c y x) → insA c (R ++ Q) x = R ++ insA c Q x
  | [], _, _ => rfl
  | y :: R, Q, h => by
    rw [List.cons_append, insA, if_pos (h y (by simp)), insA_pass fun z hz => h z (by simp [hz])]
    rfl
theorem srtStep_split {α : Type} {c : α → α → Int} {A B : List α} {x : α} (hB : ∀ y ∈ B, 0 < c y x) (hA : ∀ y, A.getLast? = some y → ¬ 0 < c y x) : srtStep c (A ++ B) x = A ++ x :: B := by
  unfold srtStep
  rw [List.reverse_append, insA_pass fun y hy => hB y (by simpa using hy)]
  have : insA c A.reverse x = x :: A.reverse := by
    cases h : A.reverse with
    | nil => rfl
    | cons y r =>
      rw [insA, if_neg (hA y (by rw [← List.head?_reverse, h]; rfl))]
  rw [this]
  simp
/-- a row into which x is put: x stands at k, what was from k on stands behind it -/
def midA {α : Type} (l : List α) (x : α) (k : Nat) : List α := l.take k ++ x :: l.drop k
theorem midA_length {α : Type} (l : List α) (x : α) (k : Nat) (hk : k ≤ l.length) : (midA l x k).length = l.length + 1 := by
  unfold midA; rw [List.length_append, List.length_take, List.length_cons, List.length_drop]; omega
theorem midA_end {α : Type} (l : List α) (x : α) : midA l x l.length = l ++ [x] := by unfold midA; simp
theorem midA_at {α : Type} (l : List α) (x : α) (k : Nat) (hk : k ≤ l.length) : (midA l x k)[k]? = some x := by
  unfold midA
  rw [List.getElem?_append_right (by rw [List.length_take]; omega), List.length_take, Nat.min_eq_left hk, Nat.sub_self]
  rfl
theorem midA_prev {α : Type} {l : List α} {x y : α} {k : Nat} (h : l[k]? = some y) : (midA l x (k + 1))[k]? = some y := by
  have := (List.getElem?_eq_some_iff.1 h).1
  unfold midA
  rw [List.getElem?_append_left (by rw [List.length_take]; omega), List.getElem?_take_of_lt (by omega), h]
theorem midA_swap {α : Type} {l : List α} {x y : α} {k : Nat} (h : l[k]? = some y) : ((midA l x (k + 1)).set k x).set (k + 1) y = midA l x k := by
  have hk := (List.getElem?_eq_some_iff.1 h).1
  have e1 : l.take (k + 1) = l.take k ++ [y] := by rw [List.take_add_one, h]; rfl
  have e2 : l.drop k = y :: l.drop (k + 1) := by
    rw [List.drop_eq_getElem_cons hk]
    congr 1
    rw [List.getElem?_eq_getElem hk] at h
    exact Option.some.inj h
  unfold midA
  rw [e1, e2, List.append_assoc]
  have hl : (l.take k).length = k := by rw [List.length_take]; omega
  rw [List.set_append_right _ _ (by omega), hl, Nat.sub_self, List.set_append_right _ _ (by omega), hl, show k + 1 - k = 1 by omega]
  rfl
theorem midA_swap' {α : Type} {l : List α} {x y : α} {k : Nat} (h : l[k]? = some y) : ((midA l x (k + 1)).set (k + 1) y).set k x = midA l x k := by
  rw [List.set_comm _ _ (by omega)]
  exact midA_swap h
theorem midA_done {α : Type} {c : α → α → Int} {l : List α} {x : α} {k : Nat} (hB : ∀ y ∈ l.drop k, 0 < c y x) (hA : ∀ (j : Nat) (y : α), k = j + 1 → l[j]? = some y → ¬ 0 < c y x) (hk : k ≤ l.length) : midA l x k = srtStep c l x := by
  have := srtStep_split (c := c) (A := l.take k) (B := l.drop k) (x := x) hB fun y hy => by
    cases k with
    | zero => simp at hy
    | succ k =>
      refine hA k y rfl ?_
      rw [List.getLast?_eq_getElem?, List.length_take, Nat.min_eq_left hk, List.getElem?_take_of_lt (by omega)] at hy
      simpa using hy
  rw [List.take_append_drop] at this
  exact this.symm
theorem drop_prev {α : Type} {p : α → Prop} {l : List α} {k : Nat} {y : α} (h : l[k]? = some y) (hy : p y) (hB : ∀ z ∈ l.drop (k + 1), p z) : ∀ z ∈ l.drop k, p z := by
  have hk := (List.getElem?_eq_some_iff.1 h).1
  have e2 : l.drop k = y :: l.drop (k + 1) := by
    rw [List.drop_eq_getElem_cons hk]
    congr 1
    rw [List.getElem?_eq_getElem hk] at h
    exact Option.some.inj h
  rw [e2]
  intro z hz
  rcases List.mem_cons.1 hz with rfl | hz
  · exact hy
  · exact hB z hz

/-! ### numbers that rise -/
def subI (a b : Int) : Int := a - b
theorem subI_ord : OrdA subI := ⟨fun i j => by unfold subI; omega, fun i j k h1 h2 => by unfold subI at *; omega⟩
/-- a number put into numbers that rise, once -/
def riseK (l : List Int) (n : Int) : List Int := if n ∈ l then l else srtStep subI l n
theorem riseK_in {l : List Int} {n : Int} (h : n ∈ l) : riseK l n = l := if_pos h
theorem riseK_new {l : List Int} {n : Int} (h : n ∉ l) : riseK l n = srtStep subI l n := if_neg h
theorem riseK_mem {l : List Int} {n x : Int} : x ∈ riseK l n ↔ x ∈ l ∨ x = n := by
  unfold riseK
  split
  · rename_i h
    exact ⟨.inl, fun k => k.elim id fun e => e ▸ h⟩
  · rw [(srtStep_perm l n).mem_iff, List.mem_append, List.mem_singleton]
theorem riseK_length (l : List Int) (n : Int) : (riseK l n).length ≤ l.length + 1 := by
  unfold riseK
  split
  · omega
  · rw [(srtStep_perm l n).length_eq]; simp
theorem riseK_rise {l : List Int} {n : Int} (h : l.Pairwise (· < ·)) : (riseK l n).Pairwise (· < ·) := by
  unfold riseK
  split
  · exact h
  · rename_i hn
    have h1 : (srtStep subI l n).Pairwise fun a b => subI a b ≤ 0 := by
      unfold srtStep
      rw [List.pairwise_reverse]
      refine insA_sorted subI_ord ?_
      rw [List.pairwise_reverse]
      exact h.imp fun h => by unfold subI; omega
    have h2 : (srtStep subI l n).Nodup := by
      rw [(srtStep_perm l n).nodup_iff, List.nodup_append]
      refine ⟨h.imp fun h e => by omega, by simp, ?_⟩
      intro x hx y hy e
      rw [List.mem_singleton] at hy
      exact hn (hy ▸ e ▸ hx)
    rw [List.pairwise_iff_getElem]
    intro i j hi hj hij
    have a := List.pairwise_iff_getElem.1 h1 i j hi hj hij
    have b := List.pairwise_iff_getElem.1 h2 i j hi hj hij
    rcases Int.lt_or_eq_of_le (Int.le_of_sub_nonpos a) with h | h
    · exact h
    · exact absurd h b
/-- of the first n numbers of a row -/
def riseL (r : List Int) (t : List Int) : Nat → List Int
  | 0 => r
  | n + 1 => riseK (riseL r t n) (t.getD n 0)
/-- the numbers of the first n entries of a term -/
def topsK (l : List En) (t : ByteArray) : Nat → List Int
  | 0 => []
  | n + 1 => match l[n]? with | some e => if foldS e.term = t then riseL (topsK l t n) e.topics e.topics.length else topsK l t n | none => topsK l t n
theorem topsK_own {l : List En} {t : ByteArray} {n : Nat} {e : En} (h : l[n]? = some e) (he : foldS e.term = t) : topsK l t (n + 1) = riseL (topsK l t n) e.topics e.topics.length := by rw [topsK, h]; simp only; rw [if_pos he]
theorem topsK_skip {l : List En} {t : ByteArray} {n : Nat} {e : En} (h : l[n]? = some e) (he : ¬ foldS e.term = t) : topsK l t (n + 1) = topsK l t n := by rw [topsK, h]; simp only; rw [if_neg he]
theorem riseL_succ {r t : List Int} {n : Nat} {x : Int} (h : t[n]? = some x) : riseL r t (n + 1) = riseK (riseL r t n) x := by
  rw [riseL]
  congr 1
  simp [List.getD, h]
theorem riseL_mem {r t : List Int} {n : Nat} (hn : n ≤ t.length) {x : Int} : x ∈ riseL r t n ↔ x ∈ r ∨ ∃ (i : Nat), i < n ∧ t[i]? = some x := by
  induction n with
  | zero => simp [riseL]
  | succ n ih =>
    obtain ⟨y, hy⟩ : ∃ y, t[n]? = some y := ⟨_, List.getElem?_eq_getElem (by omega)⟩
    rw [riseL_succ hy, riseK_mem, ih (by omega)]
    constructor
    · rintro ((h | ⟨i, hi, h⟩) | rfl)
      · exact .inl h
      · exact .inr ⟨i, by omega, h⟩
      · exact .inr ⟨n, by omega, hy⟩
    · rintro (h | ⟨i, hi, h⟩)
      · exact .inl (.inl h)
      · by_cases e : i = n
        · subst e; exact .inr (Option.some.inj (h.symm.trans hy))
        · exact .inl (.inr ⟨i, by omega, h⟩)
theorem riseL_rise {r t : List Int} {n : Nat} (h : r.Pairwise (· < ·)) : (riseL r t n).Pairwise (· < ·) := by
  induction n with
  | zero => exact h
  | succ n ih => exact riseK_rise ih
theorem riseL_length (r t : List Int) (n : Nat) : (riseL r t n).length ≤ r.length + n := by
  induction n with
  | zero => exact Nat.le_refl _
  | succ n ih => have := riseK_length (riseL r t n) (t.getD n 0); rw [riseL]; omega
theorem topsK_rise (l : List En) (t : ByteArray) (n : Nat) : (topsK l t n).Pairwise (· < ·) := by
  induction n with
  | zero => simp [topsK]
  | succ n ih =>
    rw [topsK]
    split
    · split
      · exact riseL_rise ih
      · exact ih
    · exact ih
theorem topsK_mem {l : List En} {t : ByteArray} {n : Nat} {x : Int} : x ∈ topsK l t n ↔ ∃ (i : Nat) (e : En), i < n ∧ l[i]? = some e ∧ foldS e.term = t ∧ x ∈ e.topics := by
  induction n with
  | zero => simp [topsK]
  | succ n ih =>
    cases he : l[n]? with
    | none =>
      rw [topsK, he]
      simp only
      rw [ih]
      constructor
      · rintro ⟨i, e, hi, h⟩; exact ⟨i, e, by omega, h⟩
      · rintro ⟨i, e, hi, h1, h2⟩
        by_cases c : i = n
        · subst c; rw [he] at h1; cases h1
        · exact ⟨i, e, by omega, h1, h2⟩
    | some y =>
      by_cases hy : foldS y.term = t
      · rw [topsK_own he hy, riseL_mem (Nat.le_refl _), ih]
        constructor
        · rintro (⟨i, e, hi, h⟩ | ⟨j, _, h⟩)
          · exact ⟨i, e, by omega, h⟩
          · exact ⟨n, y, by omega, he, hy, List.mem_of_getElem? h⟩
        · rintro ⟨i, e, hi, h1, h2, h3⟩
          by_cases c : i = n
          · subst c
            obtain rfl := Option.some.inj (h1.symm.trans he)
            obtain ⟨j, hj⟩ := List.getElem?_of_mem h3
            exact .inr ⟨j, (List.getElem?_eq_some_iff.1 hj).1, hj⟩
          · exact .inl ⟨i, e, by omega, h1, h2, h3⟩
      · rw [topsK_skip he hy, ih]
        constructor
        · rintro ⟨i, e, hi, h⟩; exact ⟨i, e, by omega, h⟩
        · rintro ⟨i, e, hi, h1, h2, h3⟩
          by_cases c : i = n
          · subst c
            obtain rfl := Option.some.inj (h1.symm.trans he)
            exact absurd h2 hy
          · exact ⟨i, e, by omega, h1, h2, h3⟩
theorem topsK_tops (l : List En) (t : ByteArray) : IsTops l t (topsK l t l.length) := by
  refine ⟨topsK_rise l t _, fun x => ?_⟩
  rw [topsK_mem]
  constructor
  · rintro ⟨i, e, _, h1, h2, h3⟩; exact ⟨e, List.mem_of_getElem? h1, h2, h3⟩
  · rintro ⟨e, he, h2, h3⟩
    obtain ⟨i, hi⟩ := List.getElem?_of_mem he
    exact ⟨i, e, (List.getElem?_eq_some_iff.1 hi).1, hi, h2, h3⟩

/-! ### what is come to by a step at least -/
variable {E : ByteArray → ByteArray → Prop} {a : ByteArray} {O : List ByteArray} {i : Nat}
/-- O: what was found so far, each once; of the first i of a and O all that follow were found -/
structure BfR (E : ByteArray → ByteArray → Prop) (a : ByteArray) (O : List ByteArray) (i : Nat) : Prop where
  nodup : O.Nodup
  sound : ∀ x ∈ O, ∃ c, E a c ∧ Rch E c x
  le : i ≤ O.length + 1
  done : ∀ (j : Nat) (x : ByteArray), j < i → (a :: O)[j]? = some x → ∀ y, E x y → y ∈ O
def IsReach (E : ByteArray → ByteArray → Prop) (a : ByteArray) (O : List ByteArray) : Prop := O.Nodup ∧ ∀ y, y ∈ O ↔ ∃ c, E a c ∧ Rch E c y
theorem BfR.init : BfR E a [] 0 := ⟨by simp, fun x hx => by simp at hx, Nat.zero_le _, fun j x hj => absurd hj (Nat.not_lt_zero j)⟩
theorem BfR.put {x y : ByteArray} (h : BfR E a O i) (hx : x ∈ a :: O) (he : E x y) (hy : y ∉ O) : BfR E a (O ++ [y]) i := by
  refine ⟨?_, fun z hz => ?_, by have := h.le; simp; omega, fun k z hk hz u hu => ?_⟩
  · rw [List.nodup_append]
    refine ⟨h.nodup, by simp, ?_⟩
    intro u hu v hv e
    rw [List.mem_singleton] at hv
    subst hv; subst e
    exact hy hu
  · rw [List.mem_append, List.mem_singleton] at hz
    rcases hz with hz | rfl
    · exact h.sound z hz
    · rcases List.mem_cons.1 hx with rfl | hx
      · exact ⟨_, he, .refl⟩
      · obtain ⟨c, h1, h2⟩ := h.sound x hx
        exact ⟨c, h1, .step h2 he⟩
  · have := h.le
    rw [← List.cons_append, List.getElem?_append_left (by rw [List.length_cons]; omega)] at hz
    exact List.mem_append_left _ (h.done k z hk hz u hu)
theorem BfR.next {x : ByteArray} (h : BfR E a O i) (hx : (a :: O)[i]? = some x) (hs : ∀ y, E x y → y ∈ O) : BfR E a O (i + 1) := by
  refine ⟨h.nodup, h.sound, by have := (List.getElem?_eq_some_iff.1 hx).1; rw [List.length_cons] at this; omega, fun j z hj hz => ?_⟩
  by_cases e : j = i
  · subst e
    obtain rfl : x = z := Option.some.inj (hx.symm.trans hz)
    exact hs
  · exact h.done j z (by omega) hz
theorem BfR.all (h : BfR E a O i) (hi : O.length + 1 ≤ i) : IsReach E a O := by
  refine ⟨h.nodup, fun y => ⟨h.sound y, ?_⟩⟩
  rintro ⟨c, hc, hr⟩
  induction hr with
  | refl => exact h.done 0 a (by omega) rfl _ hc
  | step _ he ih =>
    obtain ⟨j, hj⟩ := List.getElem?_of_mem ih
    exact h.done (j + 1) _ (by have := (List.getElem?_eq_some_iff.1 hj).1; omega) (by simpa using hj) _ he
theorem BfR.mem (h : BfR E a O i) {U : List ByteArray} (hU : ∀ x y, E x y → y ∈ U) {x : ByteArray} (hx : x ∈ O) : x ∈ U := by
  obtain ⟨c, h1, h2⟩ := h.sound x hx
  cases h2 with
  | refl => exact hU _ _ h1
  | step _ he => exact hU _ _ he
theorem BfR.bound (h : BfR E a O i) {U : List ByteArray} (hU : ∀ x y, E x y → y ∈ U) : O.length ≤ U.length := nodup_le h.nodup fun _ hx => h.mem hU hx
theorem IsReach.rch (h : IsReach E a O) {b : ByteArray} : (a = b ∨ b ∈ O) ↔ Rch E a b := by
  rw [h.2]
  constructor
  · rintro (rfl | ⟨c, h1, h2⟩)
    · exact .refl
    · exact (Rch.step .refl h1).trans h2
  · exact Rch.cases_head
theorem IsReach.follow (h : IsReach E a O) : IsFollow E a (srt compareT (O.filter fun x => decide (¬ x = a))) := by
  refine ⟨srt_strict compareT_ord (h.1.filter _) fun x y _ _ e => compareT_zero.1 e, fun x => ?_⟩
  rw [srt_mem, List.mem_filter, decide_eq_true_eq, ← h.rch]
  constructor
  · rintro ⟨h1, h2⟩; exact ⟨h2, .inr h1⟩
  · rintro ⟨h1, h2 | h2⟩
    · exact absurd h2.symm h1
    · exact ⟨h2, h1⟩
end Go.Proofs.YtohngjkedhpikaaGreatDoor
