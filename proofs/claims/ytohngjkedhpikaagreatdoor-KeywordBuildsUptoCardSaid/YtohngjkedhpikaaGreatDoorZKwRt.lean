/-
  KEYWORD, RE, PLAIN: what is come to by a step at least; what is put in its place from the end on; over no program.
-/
import Derived.Test.YtohngjkedhpikaaGreatDoorZMapsV
import Derived.Test.YtohngjkedhpikaaGreatDoorZTextJoin
import Derived.Test.YtohngjkedhpikaaGreatDoorZKwQ
import Derived.Test.YtohngjkedhpikaaGreatDoorZKwR
namespace Go.Proofs.YtohngjkedhpikaaGreatDoor

theorem str_bne {a b : ByteArray} (h : ¬ a = b) : (a.toList != b.toList) = true := by unfold bne; rw [str_beq]; simp [h]
theorem str_bnn {a b : ByteArray} (h : a = b) : (a.toList != b.toList) = false := by unfold bne; rw [str_beq]; simp [h]
theorem str_eqf {a b : ByteArray} (h : ¬ a = b) : (a.toList == b.toList) = false := by rw [str_beq]; simp [h]
theorem str_eqt {a b : ByteArray} (h : a = b) : (a.toList == b.toList) = true := by rw [str_beq]; simp [h]
/-! ### put in its place, from the end on -/
theorem insA_pass {α : Type} {c : α → α → Int} {x : α} : ∀ {R Q : List α}, (∀ y ∈ R, 0 < c y x) → insA c (R ++ Q) x = R ++ insA c Q x
  | [], _, _ => rfl
  | y :: R, Q, h => by
    rw [List.cons_append, insA, if_pos (h y (by simp)), insA_pass fun z hz => h z (by simp [hz])]
    rfl
theorem srtStep_split {α : Type} {c : α → α → Int} {A B : List α} {x : α} (hB : ∀ y ∈ B, 0 < c y x) (hA : ∀ y, A.getLast? = some y → ¬ 0 < c y x) : srtStep c (A ++ B) x = A ++ x :: B := by
  unfold srtStep
  rw [List.reverse_append, insA_pass fun y hy => hB y (by simpa using hy)]
  have : insA c A.reverse x = x :: A.reverse := by
    cases h : A.reverse with
    | nil => rfl
    | cons y r =>
      rw [insA, if_neg (hA y (by rw [← List.head?_reverse, h]; rfl))]
  rw [this]
  simp
/-- a row into which x is put: x stands at k, what was from k on stands behind it -/
def midA {α : Type} (l : List α) (x : α) (k : Nat) : List α := l.take k ++ x :: l.drop k
theorem midA_length {α : Type} (l : List α) (x : α) (k : Nat) (hk : k ≤ l.length) : (midA l x k).length = l.length + 1 := by
  unfold midA; rw [List.length_append, List.length_take, List.length_cons, List.length_drop]; omega
theorem midA_end {α : Type} (l : List α) (x : α) : midA l x l.length = l ++ [x] := by unfold midA; simp
theorem midA_at {α : Type} (l : List α) (x : α) (k : Nat) (hk : k ≤ l.length) : (midA l x k)[k]? = some x := by
  unfold midA
  rw [List.getElem?_append_right (by rw [List.length_take]; omega), List.length_take, Nat.min_eq_left hk, Nat.sub_self]
  rfl
theorem midA_prev {α : Type} {l : List α} {x y : α} {k : Nat} (h : l[k]? = some y) : (midA l x (k + 1))[k]? = some y := by
  have := (List.getElem?_eq_some_iff.1 h).1
  unfold midA
  rw [List.getElem?_append_left (by rw [List.length_take]; omega), List.getElem?_take_of_lt (by omega), h]
theorem midA_swap {α : Type} {l : List α} {x y : α} {k : Nat} (h : l[k]? = some y) : ((midA l x (k + 1)).set k x).set (k + 1) y = midA l x k := by
  have hk := (List.getElem?_eq_some_iff.1 h).1
  have e1 : l.take (k + 1) = l.take k ++ [y] := by rw [List.take_add_one, h]; rfl
  have e2 : l.drop k = y :: l.drop (k + 1) := by
    rw [List.drop_eq_getElem_cons hk]
    congr 1
    rw [List.getElem?_eq_getElem hk] at h
    exact Option.some.inj h
  unfold midA
  rw [e1, e2, List.append_assoc]
  have hl : (l.take k).length = k := by rw [List.length_take]; omega
  rw [List.set_append_right _ _ (by omega), hl, Nat.sub_self, List.set_append_right _ _ (by omega), hl, show k + 1 - k = 1 by omega]
  rfl
theorem midA_swap' {α : Type} {l : List α} {x y : α} {k : Nat} (h : l[k]? = some y) : ((midA l x (k + 1)).set (k + 1) y).set k x = midA l x k := by
  rw [List.set_comm _ _ (by omega)]
  exact midA_swap h
theorem midA_done {α : Type} {c : α → α → Int} {l : List α} {x : α} {k : Nat} (hB : ∀ y ∈ l.drop k, 0 < c y x) (hA : ∀ (j : Nat) (y : α), k = j + 1 → l[j]? = some y → ¬ 0 < c y x) (hk : k ≤ l.length) : midA l x k = srtStep c l x := by
  have := srtStep_split (c := c) (A := l.take k) (B := l.drop k) (x := x) hB fun y hy => by
    cases k with
    | zero => simp at hy
    | succ k =>
      refine hA k y rfl ?_
      rw [List.getLast?_eq_getElem?, List.length_take, Nat.min_eq_left hk, List.getElem?_take_of_lt (by omega)] at hy
      simpa using hy
  rw [List.take_append_drop] at this
  exact this.symm
theorem drop_prev {α : Type} {p : α → Prop} {l : List α} {k : Nat} {y : α} (h : l[k]? = some y) (hy : p y) (hB : ∀ z ∈ l.drop (k + 1), p z) : ∀ z ∈ l.drop k, p z := by
  have hk := (List.getElem?_eq_some_iff.1 h).1
  have e2 : l.drop k = y :: l.drop (k + 1) := by
    rw [List.drop_eq_getElem_cons hk]
    congr 1
    rw [List.getElem?_eq_getElem hk] at h
    exact Option.some.inj h
  rw [e2]
  intro z hz
  rcases List.mem_cons.1 hz with rfl | hz
  · exact hy
  · exact hB z hz

/-! ### numbers that rise -/
def subI (a b : Int) : Int := a - b
theorem subI_ord : OrdA subI := ⟨fun i j => by unfold subI; omega, fun i j k h1 h2 => by unfold subI at *; omega⟩
/-- a number put into numbers that rise, once -/
def riseK (l : List Int) (n : Int) : List Int := if n ∈ l then l else srtStep subI l n
theorem riseK_in {l : List Int} {n : Int} (h : n ∈ l) : riseK l n = l := if_pos h
theorem riseK_new {l : List Int} {n : Int} (h : n ∉ l) : riseK l n = srtStep subI l n := if_neg h
theorem riseK_mem {l : List Int} {n x : Int} : x ∈ riseK l n ↔ x ∈ l ∨ x = n := by
  unfold riseK
  split
  · rename_i h
    exact ⟨.inl, fun k => k.elim id fun e => e ▸ h⟩
  · rw [(srtStep_perm l n).mem_iff, List.mem_append, List.mem_singleton]
theorem riseK_length (l : List Int) (n : Int) : (riseK l n).length ≤ l.length + 1 := by
  unfold riseK
  split
  · omega
  · rw [(srtStep_perm l n).length_eq]; simp
theorem riseK_rise {l : List Int} {n : Int} (h : l.Pairwise (· < ·)) : (riseK l n).Pairwise (· < ·) := by
  unfold riseK
  split
  · exact h
  · rename_i hn
    have h1 : (srtStep subI l n).Pairwise fun a b => subI a b ≤ 0 := by
      unfold srtStep
      rw [List.pairwise_reverse]
      refine insA_sorted subI_ord ?_
      rw [List.pairwise_reverse]
      exact h.imp fun h => by unfold subI; omega
    have h2 : (srtStep subI l n).Nodup := by
      rw [(srtStep_perm l n).nodup_iff, List.nodup_append]
      refine ⟨h.imp fun h e => by omega, by simp, ?_⟩
      intro x hx y hy e
      rw [List.mem_singleton] at hy
      exact hn (hy ▸ e ▸ hx)
    rw [List.pairwise_iff_getElem]
    intro i j hi hj hij
    have a := List.pairwise_iff_getElem.1 h1 i j hi hj hij
    have b := List.pairwise_iff_getElem.1 h2 i j hi hj hij
    rcases Int.lt_or_eq_of_le (Int.le_of_sub_nonpos a) with h | h
    · exact h
    · exact absurd h b
/-- of the first n numbers of a row -/
def riseL (r : List Int) (t : List Int) : Nat → List Int
  | 0 => r
  | n + 1 => riseK (riseL r t n) (t.getD n 0)
/-- the numbers of the first n entries of a term -/
def topsK (l : List En) (t : ByteArray) : Nat → List Int
  | 0 => []
  | n + 1 => match l[n]? with | some e => if foldS e.term = t then riseL (topsK l t n) e.topics e.topics.length else topsK l t n | none => topsK l t n
theorem topsK_own {l : List En} {t : ByteArray} {n : Nat} {e : En} (h : l[n]? = some e) (he : foldS e.term = t) : topsK l t (n + 1) = riseL (topsK l t n) e.topics e.topics.length := by rw [topsK, h]; simp only; rw [if_pos he]
theorem topsK_skip {l : List En} {t : ByteArray} {n : Nat} {e : En} (h : l[n]? = some e) (he : ¬ foldS e.term = t) : topsK l t (n + 1) = topsK l t n := by rw [topsK, h]; simp only; rw [if_neg he]
theorem riseL_succ {r t : List Int} {n : Nat} {x : Int} (h : t[n]? = some x) : riseL r t (n + 1) = riseK (riseL r t n) x := by
  rw [riseL]
  congr 1
  simp [List.getD, h]
theorem riseL_mem {r t : List Int} {n : Nat} (hn : n ≤ t.length) {x : Int} : x ∈ riseL r t n ↔ x ∈ r ∨ ∃ (i : Nat), i < n ∧ t[i]? = some x := by
  induction n with
  | zero => simp [riseL]
  | succ n ih =>
    obtain ⟨y, hy⟩ : ∃ y, t[n]? = some y := ⟨_, List.getElem?_eq_getElem (by omega)⟩
    rw [riseL_succ hy, riseK_mem, ih (by omega)]
    constructor
    · rintro ((h | ⟨i, hi, h⟩) | rfl)
      · exact .inl h
      · exact .inr ⟨i, by omega, h⟩
      · exact .inr ⟨n, by omega, hy⟩
    · rintro (h | ⟨i, hi, h⟩)
      · exact .inl (.inl h)
      · by_cases e : i = n
        · subst e; exact .inr (Option.some.inj (h.symm.trans hy))
        · exact .inl (.inr ⟨i, by omega, h⟩)
theorem riseL_rise {r t : List Int} {n : Nat} (h : r.Pairwise (· < ·)) : (riseL r t n).Pairwise (· < ·) := by
  induction n with
  | zero => exact h
  | succ n ih => exact riseK_rise ih
theorem riseL_length (r t : List Int) (n : Nat) : (riseL r t n).length ≤ r.length + n := by
  induction n with
  | zero => exact Nat.le_refl _
  | succ n ih => have := riseK_length (riseL r t n) (t.getD n 0); rw [riseL]; omega
theorem topsK_rise (l : List En) (t : ByteArray) (n : Nat) : (topsK l t n).Pairwise (· < ·) := by
  induction n with
  | zero => simp [topsK]
  | succ n ih =>
    rw [topsK]
    split
    · split
      · exact riseL_rise ih
      · exact ih
    · exact ih
theorem topsK_mem {l : List En} {t : ByteArray} {n : Nat} {x : Int} : x ∈ topsK l t n ↔ ∃ (i : Nat) (e : En), i < n ∧ l[i]? = some e ∧ foldS e.term = t ∧ x ∈ e.topics := by
  induction n with
  | zero => simp [topsK]
  | succ n ih =>
    cases he : l[n]? with
    | none =>
      rw [topsK, he]
      simp only
      rw [ih]
      constructor
      · rintro ⟨i, e, hi, h⟩; exact ⟨i, e, by omega, h⟩
      · rintro ⟨i, e, hi, h1, h2⟩
        by_cases c : i = n
        · subst c; rw [he] at h1; cases h1
        · exact ⟨i, e, by omega, h1, h2⟩
    | some y =>
      by_cases hy : foldS y.term = t
      · rw [topsK_own he hy, riseL_mem (Nat.le_refl _), ih]
        constructor
        · rintro (⟨i, e, hi, h⟩ | ⟨j, _, h⟩)
          · exact ⟨i, e, by omega, h⟩
          · exact ⟨n, y, by omega, he, hy, List.mem_of_getElem? h⟩
        · rintro ⟨i, e, hi, h1, h2, h3⟩
          by_cases c : i = n
          · subst c
            obtain rfl := Option.some.inj (h1.symm.trans he)
            obtain ⟨j, hj⟩ := List.getElem?_of_mem h3
            exact .inr ⟨j, (List.getElem?_eq_some_iff.1 hj).1, hj⟩
          · exact .inl ⟨i, e, by omega, h1, h2, h3⟩
      · rw [topsK_skip he hy, ih]
        constructor
        · rintro ⟨i, e, hi, h⟩; exact ⟨i, e, by omega, h⟩
        · rintro ⟨i, e, hi, h1, h2, h3⟩
          by_cases c : i = n
          · subst c
            obtain rfl := Option.some.inj (h1.symm.trans he)
            exact absurd h2 hy
          · exact ⟨i, e, by omega, h1, h2, h3⟩
theorem topsK_tops (l : List En) (t : ByteArray) : IsTops l t (topsK l t l.length) := by
  refine ⟨topsK_rise l t _, fun x => ?_⟩
  rw [topsK_mem]
  constructor
  · rintro ⟨i, e, _, h1, h2, h3⟩; exact ⟨e, List.mem_of_getElem? h1, h2, h3⟩
  · rintro ⟨e, he, h2, h3⟩
    obtain ⟨i, hi⟩ := List.getElem?_of_mem he
    exact ⟨i, e, (List.getElem?_eq_some_iff.1 hi).1, hi, h2, h3⟩

/-! ### what is come to by a step at least -/
variable {E : ByteArray → ByteArray → Prop} {a : ByteArray} {O : List ByteArray} {i : Nat}
/-- O: what was found so far, each once; of the first i of a and O all that follow were found -/
structure BfR (E : ByteArray → ByteArray → Prop) (a : ByteArray) (O : List ByteArray) (i : Nat) : Prop where
  nodup : O.Nodup
  sound : ∀ x ∈ O, ∃ c, E a c ∧ Rch E c x
  le : i ≤ O.length + 1
  done : ∀ (j : Nat) (x : ByteArray), j < i → (a :: O)[j]? = some x → ∀ y, E x y → y ∈ O
def IsReach (E : ByteArray → ByteArray → Prop) (a : ByteArray) (O : List ByteArray) : Prop := O.Nodup ∧ ∀ y, y ∈ O ↔ ∃ c, E a c ∧ Rch E c y
theorem BfR.init : BfR E a [] 0 := ⟨by simp, fun x hx => by simp at hx, Nat.zero_le _, fun j x hj => absurd hj (Nat.not_lt_zero j)⟩
theorem BfR.put {x y : ByteArray} (h : BfR E a O i) (hx : x ∈ a :: O) (he : E x y) (hy : y ∉ O) : BfR E a (O ++ [y]) i := by
  refine ⟨?_, fun z hz => ?_, by have := h.le; simp; omega, fun k z hk hz u hu => ?_⟩
  · rw [List.nodup_append]
    refine ⟨h.nodup, by simp, ?_⟩
    intro u hu v hv e
    rw [List.mem_singleton] at hv
    subst hv; subst e
    exact hy hu
  · rw [List.mem_append, List.mem_singleton] at hz
    rcases hz with hz | rfl
    · exact h.sound z hz
    · rcases List.mem_cons.1 hx with rfl | hx
      · exact ⟨_, he, .refl⟩
      · obtain ⟨c, h1, h2⟩ := h.sound x hx
        exact ⟨c, h1, .step h2 he⟩
  · have := h.le
    rw [← List.cons_append, List.getElem?_append_left (by rw [List.length_cons]; omega)] at hz
    exact List.mem_append_left _ (h.done k z hk hz u hu)
theorem BfR.next {x : ByteArray} (h : BfR E a O i) (hx : (a :: O)[i]? = some x) (hs : ∀ y, E x y → y ∈ O) : BfR E a O (i + 1) := by
  refine ⟨h.nodup, h.sound, by have := (List.getElem?_eq_some_iff.1 hx).1; rw [List.length_cons] at this; omega, fun j z hj hz => ?_⟩
  by_cases e : j = i
  · subst e
    obtain rfl : x = z := Option.some.inj (hx.symm.trans hz)
    exact hs
  · exact h.done j z (by omega) hz
theorem BfR.all (h : BfR E a O i) (hi : O.length + 1 ≤ i) : IsReach E a O := by
  refine ⟨h.nodup, fun y => ⟨h.sound y, ?_⟩⟩
  rintro ⟨c, hc, hr⟩
  induction hr with
  | refl => exact h.done 0 a (by omega) rfl _ hc
  | step _ he ih =>
    obtain ⟨j, hj⟩ := List.getElem?_of_mem ih
    exact h.done (j + 1) _ (by have := (List.getElem?_eq_some_iff.1 hj).1; omega) (by simpa using hj) _ he
theorem BfR.mem (h : BfR E a O i) {U : List ByteArray} (hU : ∀ x y, E x y → y ∈ U) {x : ByteArray} (hx : x ∈ O) : x ∈ U := by
  obtain ⟨c, h1, h2⟩ := h.sound x hx
  cases h2 with
  | refl => exact hU _ _ h1
  | step _ he => exact hU _ _ he
theorem BfR.bound (h : BfR E a O i) {U : List ByteArray} (hU : ∀ x y, E x y → y ∈ U) : O.length ≤ U.length := nodup_le h.nodup fun _ hx => h.mem hU hx
theorem IsReach.rch (h : IsReach E a O) {b : ByteArray} : (a = b ∨ b ∈ O) ↔ Rch E a b := by
  rw [h.2]
  constructor
  · rintro (rfl | ⟨c, h1, h2⟩)
    · exact .refl
    · exact (Rch.step .refl h1).trans h2
  · exact Rch.cases_head
theorem IsReach.follow (h : IsReach E a O) : IsFollow E a (srt compareT (O.filter fun x => decide (¬ x = a))) := by
  refine ⟨srt_strict compareT_ord (h.1.filter _) fun x y _ _ e => compareT_zero.1 e, fun x => ?_⟩
  rw [srt_mem, List.mem_filter, decide_eq_true_eq, ← h.rch]
  constructor
  · rintro ⟨h1, h2⟩; exact ⟨h2, .inr h1⟩
  · rintro ⟨h1, h2 | h2⟩
    · exact absurd h2.symm h1
    · exact ⟨h2, h1⟩
end Go.Proofs.YtohngjkedhpikaaGreatDoor
/-
  KEYWORD, RB, PLAIN: the entries as the document gathers and orders them; over no program.
-/
namespace Go.Proofs.YtohngjkedhpikaaGreatDoor

variable {M : List Mn} {m : Mn} {p : Pl}
/-- the entries in the order in which they were found -/
def rawOf (M : List Mn) : List En := (places M).map (ixE M)
/-- an entry's row with one more mention -/
def topA (l : List Int) (n : Int) : List Int := if l.getLast? = some n then l else l ++ [n]
def seeA (l : List ByteArray) (x : ByteArray) : List ByteArray := if ∃ s ∈ l, foldS s = foldS x then l else srtStep cmpS l x
def addA (e : En) (m : Mn) : En := if m.see = 1 then { e with sees := seeA e.sees m.aim } else { e with topics := topA e.topics m.topic }
theorem rawOf_length (M : List Mn) : (rawOf M).length = (places M).length := by unfold rawOf; rw [List.length_map]
theorem rawOf_at {i : Nat} {e : En} (h : (rawOf M)[i]? = some e) : ∃ p, (places M)[i]? = some p ∧ p ∈ places M ∧ e = ixE M p ∧ plE e = p := by
  unfold rawOf at h
  rw [List.getElem?_map, Option.map_eq_some_iff] at h
  obtain ⟨p, h1, rfl⟩ := h
  have := List.mem_of_getElem? h1
  exact ⟨p, h1, this, rfl, ix_pl this⟩
theorem rawOf_mem {e : En} : e ∈ rawOf M ↔ e ∈ ixOf M := by
  rw [ix_mem]
  unfold rawOf
  rw [List.mem_map]
  constructor
  · rintro ⟨p, h, rfl⟩; exact ⟨p, h, rfl⟩
  · rintro ⟨p, h, rfl⟩; exact ⟨p, h, rfl⟩
theorem seesOf_srt_mem {x : ByteArray} : (∃ s ∈ srt cmpS (seesOf M p), foldS s = foldS x) ↔ ∃ s ∈ seesOf M p, foldS s = foldS x := by
  constructor <;> rintro ⟨s, hs, e⟩
  · exact ⟨s, srt_mem.1 hs, e⟩
  · exact ⟨s, srt_mem.2 hs, e⟩
theorem addA_in (hp : p ∈ places M) (hm : m.pl = p) : addA (ixE M p) m = ixE (M ++ [m]) p := by
  have e1 : (entOf (M ++ [m]) p).term = (entOf M p).term := by show (termO (M ++ [m]) p.1).getD noB = (termO M p.1).getD noB; rw [termO_in hp]
  have e2 : (entOf (M ++ [m]) p).sub = (entOf M p).sub := by show (subO (M ++ [m]) p).getD noB = (subO M p).getD noB; rw [subO_in hp]
  have e3 : topicsOf (M ++ [m]) p = if m.see = 1 then topicsOf M p else topA (topicsOf M p) m.topic := by
    rw [topicsOf_snoc, topStep, topA]
    by_cases h : m.see = 1
    · rw [if_pos h, if_neg (fun k => k.2.1 h)]
    · rw [if_neg h]
      by_cases k : (topicsOf M p).getLast? = some m.topic
      · rw [if_pos k, if_neg (fun k' => k'.2.2 k)]
      · rw [if_neg k, if_pos ⟨hm, h, k⟩]
  have e4 : srt cmpS (seesOf (M ++ [m]) p) = if m.see = 1 then seeA (srt cmpS (seesOf M p)) m.aim else srt cmpS (seesOf M p) := by
    rw [seesOf_snoc, seeStep]
    by_cases h : m.see = 1
    · rw [if_pos h, seeA]
      by_cases k : ∃ s ∈ seesOf M p, foldS s = foldS m.aim
      · rw [if_pos (seesOf_srt_mem.2 k), if_neg (fun k' => k'.2.2 k)]
      · rw [if_neg (fun k' => k (seesOf_srt_mem.1 k')), if_pos ⟨hm, h, k⟩, srt_snoc]
    · rw [if_neg h, if_neg (fun k => h k.2.1)]
  unfold addA
  have ex : ixE (M ++ [m]) p = ⟨(entOf (M ++ [m]) p).term, (entOf (M ++ [m]) p).sub, topicsOf (M ++ [m]) p, srt cmpS (seesOf (M ++ [m]) p)⟩ := rfl
  rw [ex, e1, e2, e3, e4]
  split <;> rfl
theorem ixE_other (hp : p ∈ places M) (h : ¬ m.pl = p) : ixE (M ++ [m]) p = ixE M p := by
  unfold ixE
  rw [entOf_other hp h, seesOf_snoc, seeStep, if_neg (fun k => h k.1)]
/-- an entry that was not yet there -/
theorem ixE_fresh (hp : m.pl ∉ places M) : ixE (M ++ [m]) m.pl = addA ⟨(termO (M ++ [m]) m.pl.1).getD noB, m.sub, [], []⟩ m := by
  have h0 : ¬ (subO M m.pl).isSome = true := fun k => by
    obtain ⟨x, hx, e⟩ := subO_some.1 k
    exact hp (mem_places.2 ⟨x, hx, e⟩)
  have e2 : subO (M ++ [m]) m.pl = some m.sub := by rw [subO_snoc, if_neg h0, if_pos rfl]
  have e3 : topicsOf (M ++ [m]) m.pl = if m.see = 1 then [] else [m.topic] := by
    rw [topicsOf_snoc, topicsOf_out hp, topStep]
    by_cases h : m.see = 1
    · rw [if_pos h, if_neg (fun k => k.2.1 h)]
    · rw [if_neg h, if_pos ⟨rfl, h, by simp⟩]; rfl
  have e4 : seesOf (M ++ [m]) m.pl = if m.see = 1 then [m.aim] else [] := by
    rw [seesOf_snoc, seesOf_out hp, seeStep]
    by_cases h : m.see = 1
    · rw [if_pos h, if_pos ⟨rfl, h, by simp⟩]; rfl
    · rw [if_neg h, if_neg (fun k => h k.2.1)]
  have ex : ixE (M ++ [m]) m.pl = ⟨(termO (M ++ [m]) m.pl.1).getD noB, (subO (M ++ [m]) m.pl).getD noB, topicsOf (M ++ [m]) m.pl, srt cmpS (seesOf (M ++ [m]) m.pl)⟩ := rfl
  rw [ex, e2, e3, e4]
  unfold addA
  by_cases h : m.see = 1
  · rw [if_pos h, if_pos h, if_pos h]
    unfold seeA
    rw [if_neg (by simp)]
    rfl
  · rw [if_neg h, if_neg h, if_neg h]
    unfold topA
    rw [if_neg (by simp)]
    rfl
/-- where the entry of a mention is found -/
theorem raw_found {i : Nat} {e : En} (he : (rawOf M)[i]? = some e) (hi : plE e = m.pl) : rawOf (M ++ [m]) = (rawOf M).set i (addA e m) := by
  obtain ⟨p, h1, h2, rfl, h3⟩ := rawOf_at he
  obtain rfl : p = m.pl := h3.symm.trans hi
  have hpl : places (M ++ [m]) = places M := by rw [places_snoc, placeStep, if_pos h2]
  apply List.ext_getElem?
  intro j
  rw [show rawOf (M ++ [m]) = (places M).map (ixE (M ++ [m])) by unfold rawOf; rw [hpl], List.getElem?_map, List.getElem?_set]
  by_cases hj : i = j
  · subst hj
    rw [if_pos rfl, h1, if_pos (List.getElem?_eq_some_iff.1 he).1, addA_in h2 rfl]
    rfl
  · rw [if_neg hj]
    unfold rawOf
    rw [List.getElem?_map]
    cases hq : (places M)[j]? with
    | none => rfl
    | some q =>
      have hne : ¬ m.pl = q := fun e => by
        subst e
        have a := (List.getElem?_eq_some_iff.1 h1)
        have b := (List.getElem?_eq_some_iff.1 hq)
        exact hj ((List.getElem_inj (h₀ := a.1) (h₁ := b.1) (places_nodup M)).1 (a.2.trans b.2.symm))
      rw [Option.map_some, Option.map_some, ixE_other (List.mem_of_getElem? hq) hne]
theorem raw_fresh (hp : m.pl ∉ places M) : rawOf (M ++ [m]) = rawOf M ++ [addA ⟨(termO (M ++ [m]) m.pl.1).getD noB, m.sub, [], []⟩ m] := by
  unfold rawOf
  rw [places_snoc, placeStep, if_neg hp, List.map_append, List.map_singleton, ixE_fresh hp]
  congr 1
  refine List.map_congr_left fun q hq => ixE_other hq fun e => hp (e ▸ hq)
/-- no entry of a mention -/
theorem raw_none (h : ∀ (i : Nat) (e : En), (rawOf M)[i]? = some e → ¬ plE e = m.pl) : m.pl ∉ places M := fun hp => by
  obtain ⟨i, hi⟩ := List.getElem?_of_mem hp
  refine h i (ixE M m.pl) (by unfold rawOf; rw [List.getElem?_map, hi]; rfl) (ix_pl hp)
/-- the document's order of entries -/
def cmpE (a b : En) : Int := cmpP (plE a) (plE b)
theorem raw_sorted (M : List Mn) : srt cmpE (rawOf M) = ixOf M := by
  unfold rawOf ixOf
  refine (srt_map (c := cmpP) (d := cmpE) (ixE M) (places M) fun x hx y hy => ?_).symm
  unfold cmpE
  rw [ix_pl hx, ix_pl hy]
theorem raw_has {t : ByteArray} : hasL (rawOf M) t ↔ hasM M t := by
  constructor
  · rintro ⟨e, he, rfl⟩
    obtain ⟨i, hi⟩ := List.getElem?_of_mem he
    obtain ⟨p, _, hp, rfl, _⟩ := rawOf_at hi
    obtain ⟨m, hm, hp'⟩ := mem_places.1 hp
    refine ⟨m, hm, ?_⟩
    rw [show foldS (ixE M p).term = p.1 from (ent_term hp).1, ← hp']
    rfl
  · rintro ⟨m, hm, rfl⟩
    have hp : m.pl ∈ places M := mem_places.2 ⟨m, hm, rfl⟩
    exact ⟨ixE M m.pl, rawOf_mem.2 (ix_mem.2 ⟨_, hp, rfl⟩), (ent_term hp).1⟩
theorem raw_edge (hsee : ∀ m ∈ M, m.see = 0 ∨ (m.see = 1 ∧ m.sub = noB)) (hmay : ∀ m ∈ M, m.sub = noB ∨ mayT m.sub = true) {a b : ByteArray} : edgeL (rawOf M) a b ↔ edgeM M a b := by
  constructor
  · rintro ⟨e, he, h⟩
    exact edge_sub ⟨e, rawOf_mem.1 he, h⟩
  · rintro ⟨m, hm, h1, rfl, rfl⟩
    have hp : m.pl ∈ places M := mem_places.2 ⟨m, hm, rfl⟩
    have hms : m.sub = noB := by
      rcases hsee m hm with h | h
      · rw [h] at h1; exact absurd h1 (by decide)
      · exact h.2
    obtain ⟨s, hs, hse⟩ := seesOf_has hm rfl h1
    obtain ⟨k1, z, hz, hzp, hzs⟩ := ent_sub hp
    refine ⟨ixE M m.pl, rawOf_mem.2 (ix_mem.2 ⟨_, hp, rfl⟩), ?_, (ent_term hp).1, s, srt_mem.2 hs, hse⟩
    show (entOf M m.pl).sub = noB
    have hn : foldS (entOf M m.pl).sub = noB := by rw [k1]; unfold Mn.pl; rw [hms]; exact foldS_nil
    rcases hmay z hz with h | h
    · rw [← hzs]; exact h
    · rw [hzs] at h; exact absurd hn (mayT_ok h).2.2
theorem may_of_none (h : M.findSome? termF = none) : ∀ m ∈ M, mayT m.term = true ∧ (m.sub = noB ∨ mayT m.sub = true) ∧ (m.see = 1 → mayT m.aim = true) := fun m hm => by
  have := first_of_none h hm
  unfold termF at this
  rw [Option.map_eq_none_iff] at this
  exact badW_none.1 this
end Go.Proofs.YtohngjkedhpikaaGreatDoor
/-
  KEYWORD, RS: the document's builder: the entries in a row, their topics and sees in rows of their own.
-/
namespace Go.Proofs.YtohngjkedhpikaaGreatDoor
open Go.RowKit Go.Maps
attribute [local go_sem] Old.refl Old.alloc Old.drew Old.setCell OldW.old

/-- a row of entries; whose block is whose: the row's own -1, of the i-th entry's topics 2 i, of its sees 2 i + 1 -/
structure BR (w0 w : World) (lv : Value) (t : List Er) (L : List En) (own : Nat → Option Int) : Prop where
  sz : w0.heap.size ≤ w.heap.size
  row : OwnS erE 45 w0 w lv t
  len : t.length = L.length
  base : ∀ g a, own g = some a → w0.heap.size ≤ g
  out : ∀ g, lv.ownBlock = some g → own g = some (-1)
  ent : ∀ (i : Nat) (x : Er) (e : En), t[i]? = some x → L[i]? = some e → x.term = e.term ∧ x.sub = e.sub ∧ OwnI 3 w0 w x.s2.v e.topics ∧ OwnS txE 9 w0 w x.s3.v e.sees ∧
    (∀ g, x.s2.v.ownBlock = some g → own g = some (2 * (i : Int))) ∧ ∀ g, x.s3.v.ownBlock = some g → own g = some (2 * (i : Int) + 1)
variable {w0 w W Z : World} {lv : Value} {t : List Er} {L : List En} {own : Nat → Option Int}
theorem ownsB_lt {base e size n : Nat} {v : Value} {xs : List Value} (h : w.ownsRow base e size v n xs) {g : Nat} (hg : v.ownBlock = some g) : g < w.heap.size := (World.ownsRow.lt h g hg).2
theorem OwnS.kx {α : Type} {c : Enc α} {E : TypeId} {v : Value} {l : List α} {X : Nat → Prop} (h : OwnS c E w0 w v l) (hk : KeptX X w W) (hX : ∀ g, v.ownBlock = some g → ¬ X g) : OwnS c E w0 W v l :=
  ownsRow_block h fun g hg => hk.block g (ownsB_lt h hg) (hX g hg)
theorem OwnI.kx {E : TypeId} {v : Value} {l : List Int} {X : Nat → Prop} (h : OwnI E w0 w v l) (hk : KeptX X w W) (hX : ∀ g, v.ownBlock = some g → ¬ X g) : OwnI E w0 W v l :=
  ownsRow_block h fun g hg => hk.block g (ownsB_lt h hg) (hX g hg)
theorem BR.nil (h : w0.heap.size ≤ w.heap.size) : BR w0 w (.slice none 0 0) [] [] (fun _ => none) where
  sz := h
  row := OwnS.nil _ _ _ _
  len := rfl
  base := fun _ _ h => by cases h
  out := fun g hg => by cases hg
  ent := fun i x e hx => by simp at hx
theorem BR.kx {X : Nat → Prop} (h : BR w0 w lv t L own) (hk : KeptX X w W) (hX : ∀ g, X g → own g = none) : BR w0 W lv t L own := by
  have no : ∀ {g : Nat} {a : Int}, own g = some a → ¬ X g := fun e x => by rw [hX _ x] at e; cases e
  refine ⟨Nat.le_trans h.sz hk.size, h.row.kx hk fun g hg => no (h.out g hg), h.len, h.base, h.out, fun i x e hx he => ?_⟩
  obtain ⟨h1, h2, h3, h4, h5, h6⟩ := h.ent i x e hx he
  exact ⟨h1, h2, h3.kx hk fun g hg => no (h5 g hg), h4.kx hk fun g hg => no (h6 g hg), h5, h6⟩
theorem BR.old (h : BR w0 w lv t L own) (o : Old w W) : BR w0 W lv t L own := h.kx (X := fun _ => False) (KeptX.of_old o) fun _ x => x.elim
/-- what is new is a's -/
def ownN (n : Nat) (a : Int) (own : Nat → Option Int) : Nat → Option Int := fun g => if n ≤ g then some a else own g
theorem ownN_old {n : Nat} {a : Int} {own : Nat → Option Int} {g : Nat} (h : g < n) : ownN n a own g = own g := if_neg (by omega)
theorem ownN_new {n : Nat} {a : Int} {own : Nat → Option Int} {g : Nat} (h : n ≤ g) : ownN n a own g = some a := if_pos h
theorem ownN_base {n m : Nat} {a : Int} {own : Nat → Option Int} (h : ∀ g b, own g = some b → m ≤ g) (hn : m ≤ n) : ∀ g b, ownN n a own g = some b → m ≤ g := fun g b e => by
  by_cases hg : n ≤ g
  · omega
  · rw [ownN_old (by omega)] at e; exact h g b e
/-- one more entry -/
theorem BR.app (h : BR w0 w lv t L own) (oZ : Old w Z) (hg : Z.grownBy W lv.ownBlock) {g cap m : Nat} {term sub : ByteArray}
    (hown : OwnS erE 45 w0 W (.slice (some ⟨g, 0, none⟩) m cap) (t ++ [⟨term, sub, (none, 0, 0), (none, 0, 0)⟩])) (hat : lv.ownBlock = some g ∨ g = Z.heap.size) :
    BR w0 W (.slice (some ⟨g, 0, none⟩) m cap) (t ++ [⟨term, sub, (none, 0, 0), (none, 0, 0)⟩]) (L ++ [⟨term, sub, [], []⟩]) (ownN w.heap.size (-1) own) := by
  have hs := oZ.size
  have hk : KeptX (fun g => own g = some (-1)) w W := (KeptX.of_old oZ).trans (KeptX.of_grown hg fun g e => h.out g e)
  refine ⟨Nat.le_trans h.sz hk.size, hown, by rw [List.length_append, List.length_append, h.len]; rfl, ownN_base h.base h.sz, fun j hj => ?_, fun i x e hx he => ?_⟩
  · obtain rfl : g = j := Option.some.inj hj
    rcases hat with h1 | h1
    · rw [ownN_old (ownsB_lt h.row h1)]; exact h.out g h1
    · exact ownN_new (by omega)
  · by_cases hi : i < t.length
    · rw [List.getElem?_append_left hi] at hx
      rw [List.getElem?_append_left (by have := h.len; omega)] at he
      obtain ⟨h1, h2, h3, h4, h5, h6⟩ := h.ent i x e hx he
      refine ⟨h1, h2, h3.kx hk fun j hj k => ?_, h4.kx hk fun j hj k => ?_, fun j hj => ?_, fun j hj => ?_⟩
      · rw [h5 j hj] at k; have := Option.some.inj k; omega
      · rw [h6 j hj] at k; have := Option.some.inj k; omega
      · rw [ownN_old (ownsB_lt h3 hj)]; exact h5 j hj
      · rw [ownN_old (ownsB_lt h4 hj)]; exact h6 j hj
    · rw [List.getElem?_append_right (by omega)] at hx
      rw [List.getElem?_append_right (by have := h.len; omega)] at he
      have hlen := h.len
      obtain rfl : i = t.length := by have := (List.getElem?_eq_some_iff.1 hx).1; simp at this; omega
      rw [Nat.sub_self] at hx
      rw [hlen, Nat.sub_self] at he
      obtain rfl : _ = x := Option.some.inj hx
      obtain rfl : _ = e := Option.some.inj he
      exact ⟨rfl, rfl, OwnI.nil _ _ _, OwnS.nil _ _ _ _, fun j hj => by simp [Sl.v, Value.ownBlock] at hj, fun j hj => by simp [Sl.v, Value.ownBlock] at hj⟩
theorem set_at {α : Type} {l : List α} {i j : Nat} {x y z : α} (hx : l[i]? = some x) (h : (l.set i y)[j]? = some z) : (i = j ∧ z = y) ∨ (i ≠ j ∧ l[j]? = some z) := by
  rw [List.getElem?_set] at h
  by_cases e : i = j
  · subst e
    rw [if_pos rfl, if_pos (List.getElem?_eq_some_iff.1 hx).1] at h
    exact .inl ⟨rfl, (Option.some.inj h).symm⟩
  · rw [if_neg e] at h
    exact .inr ⟨e, h⟩
/-- the i-th entry's topics grow -/
theorem BR.putT {go n cap : Nat} (h : BR w0 w (.slice (some ⟨go, 0, none⟩) n cap) t L own) {i : Nat} {x : Er} {e : En} (hx : t[i]? = some x) (he : L[i]? = some e)
    (hk : KeptX (fun g => own g = some (2 * (i : Int)) ∨ w.heap.size ≤ g) w W) {s : Sl} {T : List Int} (hs : OwnI 3 w0 W s.v T) (hb : ∀ g, s.v.ownBlock = some g → g < w.heap.size → own g = some (2 * (i : Int))) :
    BR w0 (W.setCell ⟨go, i * 4 + 2, none⟩ s.v) (.slice (some ⟨go, 0, none⟩) n cap) (t.set i { x with s2 := s }) (L.set i { e with topics := T }) (ownN w.heap.size (2 * (i : Int)) own) := by
  have hgo := h.out go rfl
  have hgl : go < w.heap.size := ownsB_lt h.row rfl
  have kx : ∀ {b : Int} {g : Nat}, own g = some b → b ≠ 2 * (i : Int) → g < w.heap.size → ¬ (own g = some (2 * (i : Int)) ∨ w.heap.size ≤ g) := fun e hb hg k => by
    rcases k with k | k
    · rw [e] at k; exact hb (Option.some.inj k)
    · omega
  have hrow : OwnS erE 45 w0 W (.slice (some ⟨go, 0, none⟩) n cap) t := h.row.kx hk fun g hg => kx (h.out g hg) (by omega) (ownsB_lt h.row hg)
  have ks := KeptX.setCell (X := fun j => j = go) W go (i * 4 + 2) s.v rfl
  have hsg : ∀ g, s.v.ownBlock = some g → g ≠ go := fun g hg e => by
    subst e
    have := hb g hg hgl
    rw [hgo] at this
    have := Option.some.inj this
    omega
  refine ⟨Nat.le_trans h.sz (Nat.le_trans hk.size ks.size), hrow.stored hx (show 2 < 4 by omega) rfl, by rw [List.length_set, List.length_set, h.len], ownN_base h.base h.sz, fun g hg => ?_, fun j y f hy hf => ?_⟩
  · rw [ownN_old (ownsB_lt h.row hg)]; exact h.out g hg
  · rcases set_at hx hy with ⟨rfl, rfl⟩ | ⟨hne, hy⟩
    · rcases set_at he hf with ⟨_, rfl⟩ | ⟨hne, _⟩
      · obtain ⟨h1, h2, h3, h4, h5, h6⟩ := h.ent i x e hx he
        refine ⟨h1, h2, hs.kx ks hsg, (h4.kx hk fun g hg => kx (h6 g hg) (by omega) (ownsB_lt h4 hg)).kx ks fun g hg e => ?_, fun g hg => ?_, fun g hg => ?_⟩
        · subst e; rw [h6 g hg] at hgo; have := Option.some.inj hgo; omega
        · by_cases hw : g < w.heap.size
          · rw [ownN_old hw]; exact hb g hg hw
          · exact ownN_new (by omega)
        · rw [ownN_old (ownsB_lt h4 hg)]; exact h6 g hg
      · exact absurd rfl hne
    · rcases set_at he hf with ⟨e', _⟩ | ⟨_, hf⟩
      · exact absurd e' hne
      · obtain ⟨h1, h2, h3, h4, h5, h6⟩ := h.ent j y f hy hf
        refine ⟨h1, h2, (h3.kx hk fun g hg => kx (h5 g hg) (by omega) (ownsB_lt h3 hg)).kx ks fun g hg e => ?_, (h4.kx hk fun g hg => kx (h6 g hg) (by omega) (ownsB_lt h4 hg)).kx ks fun g hg e => ?_, fun g hg => ?_, fun g hg => ?_⟩
        · subst e; rw [h5 g hg] at hgo; have := Option.some.inj hgo; omega
        · subst e; rw [h6 g hg] at hgo; have := Option.some.inj hgo; omega
        · rw [ownN_old (ownsB_lt h3 hg)]; exact h5 g hg
        · rw [ownN_old (ownsB_lt h4 hg)]; exact h6 g hg
/-- the i-th entry's sees grow -/
theorem BR.putS {go n cap : Nat} (h : BR w0 w (.slice (some ⟨go, 0, none⟩) n cap) t L own) {i : Nat} {x : Er} {e : En} (hx : t[i]? = some x) (he : L[i]? = some e)
    (hk : KeptX (fun g => own g = some (2 * (i : Int) + 1) ∨ w.heap.size ≤ g) w W) {s : Sl} {T : List ByteArray} (hs : OwnS txE 9 w0 W s.v T) (hb : ∀ g, s.v.ownBlock = some g → g < w.heap.size → own g = some (2 * (i : Int) + 1)) :
    BR w0 (W.setCell ⟨go, i * 4 + 3, none⟩ s.v) (.slice (some ⟨go, 0, none⟩) n cap) (t.set i { x with s3 := s }) (L.set i { e with sees := T }) (ownN w.heap.size (2 * (i : Int) + 1) own) := by
  have hgo := h.out go rfl
  have hgl : go < w.heap.size := ownsB_lt h.row rfl
  have kx : ∀ {b : Int} {g : Nat}, own g = some b → b ≠ 2 * (i : Int) + 1 → g < w.heap.size → ¬ (own g = some (2 * (i : Int) + 1) ∨ w.heap.size ≤ g) := fun e hb hg k => by
    rcases k with k | k
    · rw [e] at k; exact hb (Option.some.inj k)
    · omega
  have hrow : OwnS erE 45 w0 W (.slice (some ⟨go, 0, none⟩) n cap) t := h.row.kx hk fun g hg => kx (h.out g hg) (by omega) (ownsB_lt h.row hg)
  have ks := KeptX.setCell (X := fun j => j = go) W go (i * 4 + 3) s.v rfl
  have hsg : ∀ g, s.v.ownBlock = some g → g ≠ go := fun g hg e => by
    subst e
    have := hb g hg hgl
    rw [hgo] at this
    have := Option.some.inj this
    omega
  refine ⟨Nat.le_trans h.sz (Nat.le_trans hk.size ks.size), hrow.stored hx (show 3 < 4 by omega) rfl, by rw [List.length_set, List.length_set, h.len], ownN_base h.base h.sz, fun g hg => ?_, fun j y f hy hf => ?_⟩
  · rw [ownN_old (ownsB_lt h.row hg)]; exact h.out g hg
  · rcases set_at hx hy with ⟨rfl, rfl⟩ | ⟨hne, hy⟩
    · rcases set_at he hf with ⟨_, rfl⟩ | ⟨hne, _⟩
      · obtain ⟨h1, h2, h3, h4, h5, h6⟩ := h.ent i x e hx he
        refine ⟨h1, h2, (h3.kx hk fun g hg => kx (h5 g hg) (by omega) (ownsB_lt h3 hg)).kx ks fun g hg e => ?_, hs.kx ks hsg, fun g hg => ?_, fun g hg => ?_⟩
        · subst e; rw [h5 g hg] at hgo; have := Option.some.inj hgo; omega
        · rw [ownN_old (ownsB_lt h3 hg)]; exact h5 g hg
        · by_cases hw : g < w.heap.size
          · rw [ownN_old hw]; exact hb g hg hw
          · exact ownN_new (by omega)
      · exact absurd rfl hne
    · rcases set_at he hf with ⟨e', _⟩ | ⟨_, hf⟩
      · exact absurd e' hne
      · obtain ⟨h1, h2, h3, h4, h5, h6⟩ := h.ent j y f hy hf
        refine ⟨h1, h2, (h3.kx hk fun g hg => kx (h5 g hg) (by omega) (ownsB_lt h3 hg)).kx ks fun g hg e => ?_, (h4.kx hk fun g hg => kx (h6 g hg) (by omega) (ownsB_lt h4 hg)).kx ks fun g hg e => ?_, fun g hg => ?_, fun g hg => ?_⟩
        · subst e; rw [h5 g hg] at hgo; have := Option.some.inj hgo; omega
        · subst e; rw [h6 g hg] at hgo; have := Option.some.inj hgo; omega
        · rw [ownN_old (ownsB_lt h3 hg)]; exact h5 g hg
        · rw [ownN_old (ownsB_lt h4 hg)]; exact h6 g hg
theorem BR.ents (h : BR w0 w lv t L own) : Ents w lv L := by
  refine ⟨t, h.row.recs, h.len, fun i x e hx he => ?_⟩
  obtain ⟨h1, h2, h3, h4, _⟩ := h.ent i x e hx he
  exact ⟨h1, h2, h3.ints, Txts.of_recs h4.recs⟩
end Go.Proofs.YtohngjkedhpikaaGreatDoor
/-
  KEYWORD, RT: the document's builder whole: its box, the map of terms, the entries.
-/
namespace Go.Proofs.YtohngjkedhpikaaGreatDoor
open Go.RowKit Go.Maps
attribute [local go_sem] Old.refl Old.alloc Old.drew Old.setCell OldW.old

structure BD (w0 w : World) (bb tb k : Nat) (lv : Value) (t : List Er) (L : List En) (T : ByteArray → Option ByteArray) (own : Nat → Option Int) : Prop where
  br : BR w0 w lv t L own
  box : w.heap[bb]? = some (.cells #[lv, .map (some tb)] 162 (0, 0))
  mt : MapV Tryz.prog 9 Value.string w tb k (fun x => (T x).map Value.string)
  fb : own bb = none
  ft : own tb = none
  ne : bb ≠ tb
  b0 : w0.heap.size ≤ bb
  t0 : w0.heap.size ≤ tb
variable {w0 w W Z : World} {bb tb k : Nat} {lv : Value} {t : List Er} {L : List En} {T : ByteArray → Option ByteArray} {own : Nat → Option Int}
theorem BD.blt (h : BD w0 w bb tb k lv t L T own) : bb < w.heap.size := (Array.getElem?_eq_some_iff.1 h.box).1
theorem BD.kx {X : Nat → Prop} (h : BD w0 w bb tb k lv t L T own) (hk : KeptX X w W) (hX : ∀ g, X g → own g = none ∧ g ≠ bb ∧ g ≠ tb) : BD w0 W bb tb k lv t L T own :=
  ⟨h.br.kx hk fun g x => (hX g x).1, by rw [hk.block bb h.blt fun x => (hX _ x).2.1 rfl]; exact h.box, h.mt.block (hk.block tb h.mt.lt fun x => (hX _ x).2.2 rfl), h.fb, h.ft, h.ne, h.b0, h.t0⟩
theorem BD.old (h : BD w0 w bb tb k lv t L T own) (o : Old w W) : BD w0 W bb tb k lv t L T own := h.kx (X := fun _ => False) (KeptX.of_old o) fun _ x => x.elim
/-- the map of terms alone is written -/
theorem BD.putM (h : BD w0 w bb tb k lv t L T own) (hg : w.grownBy W (some tb)) {T' : ByteArray → Option ByteArray} (hm : MapV Tryz.prog 9 Value.string W tb (k + 1) (fun x => (T' x).map Value.string)) : BD w0 W bb tb (k + 1) lv t L T' own := by
  have hk := KeptX.of_grown (X := fun g => g = tb) hg fun g e => (Option.some.inj e).symm
  exact ⟨h.br.kx hk fun g e => by rw [e]; exact h.ft, by rw [hk.block bb h.blt h.ne]; exact h.box, hm, h.fb, h.ft, h.ne, h.b0, h.t0⟩
theorem BD.mono (h : BD w0 w bb tb k lv t L T own) {j : Nat} (hj : k ≤ j) : BD w0 w bb tb j lv t L T own := ⟨h.br, h.box, h.mt.mono hj, h.fb, h.ft, h.ne, h.b0, h.t0⟩
/-- the row is another one, and the box says so -/
theorem BD.box_new (h : BD w0 w bb tb k lv t L T own) {X : Nat → Prop} (hk : KeptX X w W) (hX : ∀ g, X g → g ≠ bb ∧ g ≠ tb) {lv' : Value} {t' : List Er} {L' : List En} {a : Int} (hr : BR w0 W lv' t' L' (ownN w.heap.size a own)) :
    BD w0 (W.setCell ⟨bb, 0, none⟩ lv') bb tb k lv' t' L' T (ownN w.heap.size a own) := by
  have hb := h.blt
  have ht := h.mt.lt
  have hbox : W.heap[bb]? = some (.cells #[lv, .map (some tb)] 162 (0, 0)) := by rw [hk.block bb hb fun x => (hX _ x).1 rfl]; exact h.box
  have ks := KeptX.setCell (X := fun j => j = bb) W bb 0 lv' rfl
  have f1 : ownN w.heap.size a own bb = none := by rw [ownN_old hb]; exact h.fb
  have f2 : ownN w.heap.size a own tb = none := by rw [ownN_old ht]; exact h.ft
  refine ⟨hr.kx ks fun g e => by rw [e]; exact f1, heap_setCell_same _ _ 0 _ _ _ hbox, (h.mt.block (hk.block tb ht fun x => (hX _ x).2 rfl)).block (ks.block tb (Nat.lt_of_lt_of_le ht hk.size) fun e => h.ne e.symm), f1, f2, h.ne, h.b0, h.t0⟩
/-- one more entry -/
theorem BD.app (h : BD w0 w bb tb k lv t L T own) (oZ : Old w Z) (hg : Z.grownBy W lv.ownBlock) {g cap m : Nat} {term sub : ByteArray}
    (hown : OwnS erE 45 w0 W (.slice (some ⟨g, 0, none⟩) m cap) (t ++ [⟨term, sub, (none, 0, 0), (none, 0, 0)⟩])) (hat : lv.ownBlock = some g ∨ g = Z.heap.size) :
    BD w0 (W.setCell ⟨bb, 0, none⟩ (.slice (some ⟨g, 0, none⟩) m cap)) bb tb k (.slice (some ⟨g, 0, none⟩) m cap) (t ++ [⟨term, sub, (none, 0, 0), (none, 0, 0)⟩]) (L ++ [⟨term, sub, [], []⟩]) T (ownN w.heap.size (-1) own) := by
  have hk : KeptX (fun g => own g = some (-1)) w W := (KeptX.of_old oZ).trans (KeptX.of_grown hg fun g e => h.br.out g e)
  exact h.box_new hk (fun g e => And.intro (fun k => absurd (k ▸ e) (by rw [h.fb]; simp)) (fun k => absurd (k ▸ e) (by rw [h.ft]; simp))) (h.br.app oZ hg hown hat)
theorem BD.putT {go n cap : Nat} (h : BD w0 w bb tb k (.slice (some ⟨go, 0, none⟩) n cap) t L T own) {i : Nat} {x : Er} {e : En} (hx : t[i]? = some x) (he : L[i]? = some e)
    (hk : KeptX (fun g => own g = some (2 * (i : Int)) ∨ w.heap.size ≤ g) w W) {s : Sl} {U : List Int} (hs : OwnI 3 w0 W s.v U) (hb : ∀ g, s.v.ownBlock = some g → g < w.heap.size → own g = some (2 * (i : Int))) :
    BD w0 (W.setCell ⟨go, i * 4 + 2, none⟩ s.v) bb tb k (.slice (some ⟨go, 0, none⟩) n cap) (t.set i { x with s2 := s }) (L.set i { e with topics := U }) T (ownN w.heap.size (2 * (i : Int)) own) := by
  have hlb := h.blt
  have hlt := h.mt.lt
  have hgo := h.br.out go rfl
  have no : ∀ j, j < w.heap.size → own j = none → (W.setCell ⟨go, i * 4 + 2, none⟩ s.v).heap[j]? = w.heap[j]? := fun j hj hn => by
    rw [(KeptX.setCell (X := fun j => j = go) W go (i * 4 + 2) s.v rfl).block j (Nat.lt_of_lt_of_le hj hk.size) (fun e => by rw [e, hgo] at hn; cases hn)]
    refine hk.block j hj fun x => ?_
    rcases x with x | x
    · rw [hn] at x; cases x
    · omega
  exact ⟨h.br.putT hx he hk hs hb, by rw [no bb hlb h.fb]; exact h.box, h.mt.block (no tb hlt h.ft), by rw [ownN_old hlb]; exact h.fb, by rw [ownN_old hlt]; exact h.ft, h.ne, h.b0, h.t0⟩
theorem BD.putS {go n cap : Nat} (h : BD w0 w bb tb k (.slice (some ⟨go, 0, none⟩) n cap) t L T own) {i : Nat} {x : Er} {e : En} (hx : t[i]? = some x) (he : L[i]? = some e)
    (hk : KeptX (fun g => own g = some (2 * (i : Int) + 1) ∨ w.heap.size ≤ g) w W) {s : Sl} {U : List ByteArray} (hs : OwnS txE 9 w0 W s.v U) (hb : ∀ g, s.v.ownBlock = some g → g < w.heap.size → own g = some (2 * (i : Int) + 1)) :
    BD w0 (W.setCell ⟨go, i * 4 + 3, none⟩ s.v) bb tb k (.slice (some ⟨go, 0, none⟩) n cap) (t.set i { x with s3 := s }) (L.set i { e with sees := U }) T (ownN w.heap.size (2 * (i : Int) + 1) own) := by
  have hlb := h.blt
  have hlt := h.mt.lt
  have hgo := h.br.out go rfl
  have no : ∀ j, j < w.heap.size → own j = none → (W.setCell ⟨go, i * 4 + 3, none⟩ s.v).heap[j]? = w.heap[j]? := fun j hj hn => by
    rw [(KeptX.setCell (X := fun j => j = go) W go (i * 4 + 3) s.v rfl).block j (Nat.lt_of_lt_of_le hj hk.size) (fun e => by rw [e, hgo] at hn; cases hn)]
    refine hk.block j hj fun x => ?_
    rcases x with x | x
    · rw [hn] at x; cases x
    · omega
  exact ⟨h.br.putS hx he hk hs hb, by rw [no bb hlb h.fb]; exact h.box, h.mt.block (no tb hlt h.ft), by rw [ownN_old hlb]; exact h.fb, by rw [ownN_old hlt]; exact h.ft, h.ne, h.b0, h.t0⟩
/-- what is not the builder's lies as it lay -/
theorem kx_old {X : Nat → Prop} (ho : Old w0 w) (hk : KeptX X w W) (hX : ∀ g, g < w.heap.size → X g → w0.heap.size ≤ g) : Old w0 W :=
  Below.trans ho (show Below w0.heap.size w W from ⟨hk.os, hk.tape, hk.output, hk.size, fun k h => hk.block k (Nat.lt_of_lt_of_le h ho.size) fun x => by have := hX k (Nat.lt_of_lt_of_le h ho.size) x; omega⟩)

/-- what is not the builder's lies as it lay, and the builder owns what it owned -/
def Fr (own own' : Nat → Option Int) (bb tb : Nat) (w w' : World) : Prop := KeptX (fun j => own j ≠ none ∨ j = bb ∨ j = tb) w w' ∧ ∀ j, j < w.heap.size → own' j = own j
theorem Fr.of_old {own : Nat → Option Int} {bb tb : Nat} {w w' : World} (o : Old w w') : Fr own own bb tb w w' := ⟨KeptX.of_old o, fun _ _ => rfl⟩
theorem Fr.trans {own own1 own2 : Nat → Option Int} {bb tb : Nat} {w w1 w2 : World} (h : Fr own own1 bb tb w w1) (k : Fr own1 own2 bb tb w1 w2) : Fr own own2 bb tb w w2 :=
  ⟨⟨k.1.os.trans h.1.os, k.1.tape.trans h.1.tape, k.1.output.trans h.1.output, Nat.le_trans h.1.size k.1.size, fun i hi hx => (k.1.block i (Nat.lt_of_lt_of_le hi h.1.size) (by rw [h.2 i hi]; exact hx)).trans (h.1.block i hi hx)⟩, fun i hi => (k.2 i (Nat.lt_of_lt_of_le hi h.1.size)).trans (h.2 i hi)⟩
theorem Fr.cell {own own' : Nat → Option Int} {bb tb : Nat} {w w' : World} (h : Fr own own' bb tb w w') {p : Addr} {v : Value} (hc : w.cell? p = some v) (hX : own p.block = none ∧ p.block ≠ bb ∧ p.block ≠ tb) : w'.cell? p = some v := by
  have hb := h.1.block _ (World.block_lt_of_cell? w p hc) (by
    rintro (h | h | h)
    · exact h hX.1
    · exact hX.2.1 h
    · exact hX.2.2 h)
  rw [← hc]
  unfold World.cell?
  rw [hb]

/-! ### two rows in order, one beside the other -/
theorem zip_fst {α β : Type} : ∀ {t : List α} {L : List β}, t.length = L.length → (t.zip L).map Prod.fst = t
  | [], [], _ => rfl
  | x :: t, y :: L, h => by rw [List.zip_cons_cons, List.map_cons, zip_fst (by simpa using h)]
theorem zip_snd {α β : Type} : ∀ {t : List α} {L : List β}, t.length = L.length → (t.zip L).map Prod.snd = L
  | [], [], _ => rfl
  | x :: t, y :: L, h => by rw [List.zip_cons_cons, List.map_cons, zip_snd (by simpa using h)]
theorem both_srt {α β : Type} {c : α → α → Int} {d : β → β → Int} {R : α → β → Prop} {t : List α} {L : List β} (h : Both R t L) (hc : ∀ x y x' y', R x y → R x' y' → c x x' = d y y') : Both R (srt c t) (srt d L) := by
  have hR : ∀ p ∈ t.zip L, R p.1 p.2 := fun p hp => by
    obtain ⟨i, hi⟩ := List.getElem?_of_mem hp
    rw [List.getElem?_zip_eq_some] at hi
    exact h.2 i p.1 p.2 hi.1 hi.2
  have e1 := srt_map (c := fun p q : α × β => c p.1 q.1) (d := c) Prod.fst (t.zip L) fun _ _ _ _ => rfl
  have e2 := srt_map (c := fun p q : α × β => c p.1 q.1) (d := d) Prod.snd (t.zip L) fun p hp q hq => (hc _ _ _ _ (hR p hp) (hR q hq)).symm
  rw [zip_fst h.1] at e1
  rw [zip_snd h.1] at e2
  rw [← e1, ← e2]
  refine ⟨by rw [List.length_map, List.length_map], fun i x y hx hy => ?_⟩
  rw [List.getElem?_map, Option.map_eq_some_iff] at hx hy
  obtain ⟨p, hp, rfl⟩ := hx
  obtain ⟨q, hq, rfl⟩ := hy
  obtain rfl := Option.some.inj (hp.symm.trans hq)
  exact hR p (srt_mem.1 (List.mem_of_getElem? hp))
end Go.Proofs.YtohngjkedhpikaaGreatDoor
