/-
  LINK, PLAIN: references; lists in order, each once; who refers to whom; over no program.
-/
import Derived.Test.YtkaoipegbjmlnaaDoorZRecs
import Derived.Lib.SlicesCompact
namespace Go.Proofs.YtkaoipegbjmlnaaDoor
open Go.RowKit

/-- a reference -/
structure Rfr where
  f : Int
  t : Int
  n : Int
  s : ByteArray
  l : Int
  c : Int
def rfE : Enc Rfr where
  k := 6
  enc x := [.int .i64 x.f, .int .i64 x.t, .int .i64 x.n, .string x.s, .int .i64 x.l, .int .i64 x.c]
  len _ := rfl
  one x u hu := by
    simp only [List.mem_cons, List.not_mem_nil, or_false] at hu
    rcases hu with rfl | rfl | rfl | rfl | rfl | rfl <;> rfl
/-! ### lists in order, each once -/
theorem strict_ext : ∀ {a b : List Int}, a.Pairwise (· < ·) → b.Pairwise (· < ·) → (∀ x, x ∈ a ↔ x ∈ b) → a = b
  | [], [], _, _, _ => rfl
  | [], y :: b, _, _, h => by have := (h y).2 (by simp); cases this
  | x :: a, [], _, _, h => by have := (h x).1 (by simp); cases this
  | x :: a, y :: b, ha, hb, h => by
    obtain ⟨ha1, ha2⟩ := List.pairwise_cons.1 ha
    obtain ⟨hb1, hb2⟩ := List.pairwise_cons.1 hb
    have hxy : x = y := by
      rcases List.mem_cons.1 ((h x).1 (by simp)) with e | e
      · exact e
      · rcases List.mem_cons.1 ((h y).2 (by simp)) with e2 | e2
        · exact e2.symm
        · have h1 := hb1 x e
          have h2 := ha1 y e2
          omega
    subst hxy
    rw [strict_ext ha2 hb2 (fun z => ?_)]
    have hz := h z
    simp only [List.mem_cons] at hz
    constructor
    · intro hm
      rcases hz.1 (.inr hm) with e | e
      · have := ha1 z hm; omega
      · exact e
    · intro hm
      rcases hz.2 (.inr hm) with e | e
      · have := hb1 z hm; omega
      · exact e
theorem compact_upTo {d : Array Int} (hs : ∀ i j, i < j → j < d.size → d[i]! ≤ d[j]!) : ∀ m, m ≤ d.size →
    (Lib.compactUpTo d m).Pairwise (· < ·) ∧ (∀ x ∈ Lib.compactUpTo d m, x ≤ d[m - 1]!) ∧ ∀ x, x ∈ Lib.compactUpTo d m ↔ ∃ j, j < m ∧ d[j]! = x
  | 0, _ => by
    have e : Lib.compactUpTo d 0 = [] := rfl
    rw [e]
    exact ⟨List.Pairwise.nil, by simp, fun x => ⟨fun h => (by cases h), fun ⟨j, h, _⟩ => (by omega)⟩⟩
  | m + 1, hm => by
    obtain ⟨h1, h2, h3⟩ := compact_upTo hs m (by omega)
    rw [Lib.compactUpTo_succ]
    by_cases hk : Lib.keeps d m = true
    · rw [if_pos hk]
      have hlt : ∀ x ∈ Lib.compactUpTo d m, x < d[m]! := fun x hx => by
        have hx2 := h2 x hx
        obtain ⟨j, hj, _⟩ := (h3 x).1 hx
        have hle := hs (m - 1) m (by omega) (by omega)
        have hne : d[m]! ≠ d[m - 1]! := fun e => by
          rw [Lib.keeps_neg (by omega) e] at hk; cases hk
        omega
      refine ⟨List.pairwise_append.2 ⟨h1, List.pairwise_singleton _ _, fun x hx y hy => by rw [List.mem_singleton.1 hy]; exact hlt x hx⟩, fun x hx => ?_, fun x => ?_⟩
      · rw [Nat.add_sub_cancel]
        rcases List.mem_append.1 hx with hx | hx
        · exact Int.le_of_lt (hlt x hx)
        · rw [List.mem_singleton.1 hx]; exact Int.le_refl _
      · rw [List.mem_append, List.mem_singleton, h3]
        constructor
        · rintro (⟨j, hj, e⟩ | e)
          · exact ⟨j, by omega, e⟩
          · exact ⟨m, by omega, e.symm⟩
        · rintro ⟨j, hj, e⟩
          by_cases hjm : j = m
          · subst hjm; exact .inr e.symm
          · exact .inl ⟨j, by omega, e⟩
    · rw [if_neg hk, List.append_nil]
      have hm0 : 0 < m := by
        rcases Nat.eq_zero_or_pos m with h | h
        · subst h; exact absurd (Lib.keeps_lt_one d 0 (by omega)) hk
        · exact h
      have he : d[m]! = d[m - 1]! := by
        rcases Int.lt_or_le (d[m - 1]!) (d[m]!) with h | h
        · exact absurd (Lib.keeps_pos (d := d) (m := m) (by omega)) hk
        · have := hs (m - 1) m (by omega) (by omega); omega
      refine ⟨h1, fun x hx => by rw [Nat.add_sub_cancel, he]; exact h2 x hx, fun x => ?_⟩
      rw [h3]
      constructor
      · rintro ⟨j, hj, e⟩; exact ⟨j, by omega, e⟩
      · rintro ⟨j, hj, e⟩
        by_cases hjm : j = m
        · subst hjm; exact ⟨j - 1, by omega, by rw [← he]; exact e⟩
        · exact ⟨j, by omega, e⟩
/-- **sorted and made one of each: strictly in order, the same members** -/
theorem rise_says (zs : List Int) : (Lib.compact (zs.mergeSort fun x y => decide (x ≤ y))).Pairwise (· < ·) ∧ ∀ x, x ∈ Lib.compact (zs.mergeSort fun x y => decide (x ≤ y)) ↔ x ∈ zs := by
  have hp := List.pairwise_mergeSort (le := fun x y : Int => decide (x ≤ y)) (fun a b c h1 h2 => by simp at *; omega) (fun a b => by simp; omega) zs
  have hmem : ∀ x, x ∈ (zs.mergeSort fun x y => decide (x ≤ y)) ↔ x ∈ zs := fun x => (List.mergeSort_perm zs _).mem_iff
  generalize zs.mergeSort (fun x y => decide (x ≤ y)) = s at *
  have hs : ∀ i j, i < j → j < s.toArray.size → s.toArray[i]! ≤ s.toArray[j]! := fun i j hij hj => by
    have hj' : j < s.length := by simpa using hj
    have := List.pairwise_iff_getElem.1 hp i j (by omega) hj' hij
    simp at this
    rw [getElem!_pos s.toArray i (by simp; omega), getElem!_pos s.toArray j hj]
    simpa using this
  obtain ⟨h1, _, h3⟩ := compact_upTo hs s.toArray.size (Nat.le_refl _)
  have e : Lib.compact s = Lib.compactUpTo s.toArray s.toArray.size := by unfold Lib.compact; simp
  rw [e]
  refine ⟨h1, fun x => ?_⟩
  rw [h3, ← hmem, List.mem_iff_getElem]
  constructor
  · rintro ⟨j, hj, e⟩
    rw [getElem!_pos s.toArray j hj] at e
    exact ⟨j, by simpa using hj, by simpa using e⟩
  · rintro ⟨j, hj, e⟩
    exact ⟨j, by simpa using hj, by rw [getElem!_pos s.toArray j (by simpa using hj)]; simpa using e⟩
/-- the numbers below n of which something is so -/
def below (n : Nat) (p : Int → Bool) : List Int := ((List.range n).map fun k : Nat => (k : Int)).filter p
theorem below_strict (n : Nat) (p : Int → Bool) : (below n p).Pairwise (· < ·) := by
  unfold below
  refine List.Pairwise.filter _ (List.pairwise_map.2 ?_)
  exact List.pairwise_lt_range.imp fun {a b} h => by omega
theorem below_mem {n : Nat} {p : Int → Bool} {x : Int} : x ∈ below n p ↔ 0 ≤ x ∧ x < n ∧ p x = true := by
  unfold below
  rw [List.mem_filter, List.mem_map]
  constructor
  · rintro ⟨⟨k, hk, rfl⟩, hp⟩
    have := List.mem_range.1 hk
    exact ⟨by omega, by omega, hp⟩
  · rintro ⟨h0, h1, hp⟩
    exact ⟨⟨x.toNat, List.mem_range.2 (by omega), by omega⟩, hp⟩
theorem below_snoc (n : Nat) (p : Int → Bool) : below (n + 1) p = below n p ++ if p n = true then [(n : Int)] else [] := by
  unfold below
  rw [List.range_succ, List.map_append, List.filter_append]
  simp [List.filter_cons]
theorem rise_below {zs : List Int} {n : Nat} {p : Int → Bool} (h : ∀ x, x ∈ zs ↔ 0 ≤ x ∧ x < n ∧ p x = true) : Lib.compact (zs.mergeSort fun x y => decide (x ≤ y)) = below n p :=
  strict_ext (rise_says zs).1 (below_strict n p) fun x => by rw [(rise_says zs).2, h, below_mem]
/-! ### who refers to whom -/
def cntR (x : Rfr) (tp : Int) : Bool := decide (0 ≤ x.f) && (decide (x.f < tp) && (decide (0 ≤ x.t) && decide (x.t < tp)))
def edge (l : List Rfr) (tp a b : Int) : Bool := l.any fun x => cntR x tp && (x.f == a && x.t == b)
def outOf (l : List Rfr) (tp a : Int) : List Int := below tp.toNat (edge l tp a)
def intoOf (l : List Rfr) (tp a : Int) : List Int := below tp.toNat fun b => edge l tp b a
def loneB (l : List Rfr) (tp i : Int) : Bool := !(l.any fun x => cntR x tp && (x.f != x.t && x.t == i))
def loneOf (l : List Rfr) (tp : Int) : List Int := below tp.toNat (loneB l tp)
/-- what the program lists of each reference -/
def rawOut (l : List Rfr) (tp a : Int) : List Int := (l.filter fun x => cntR x tp && x.f == a).map (·.t)
def rawInto (l : List Rfr) (tp a : Int) : List Int := (l.filter fun x => cntR x tp && x.t == a).map (·.f)
theorem out_is (l : List Rfr) (tp a : Int) : Lib.compact ((rawOut l tp a).mergeSort fun x y => decide (x ≤ y)) = outOf l tp a := by
  refine rise_below fun x => ?_
  unfold rawOut edge cntR
  simp only [List.mem_map, List.mem_filter, List.any_eq_true, Bool.and_eq_true, decide_eq_true_eq, beq_iff_eq]
  constructor
  · rintro ⟨y, ⟨hy, ⟨h1, h2, h3, h4⟩, h5⟩, rfl⟩
    exact ⟨h3, by omega, y, hy, ⟨h1, h2, h3, h4⟩, h5, rfl⟩
  · rintro ⟨_, _, y, hy, h1, h2, h3⟩
    exact ⟨y, ⟨hy, h1, h2⟩, h3⟩
theorem into_is (l : List Rfr) (tp a : Int) : Lib.compact ((rawInto l tp a).mergeSort fun x y => decide (x ≤ y)) = intoOf l tp a := by
  refine rise_below fun x => ?_
  unfold rawInto edge cntR
  simp only [List.mem_map, List.mem_filter, List.any_eq_true, Bool.and_eq_true, decide_eq_true_eq, beq_iff_eq]
  constructor
  · rintro ⟨y, ⟨hy, ⟨h1, h2, h3, h4⟩, h5⟩, rfl⟩
    exact ⟨h1, by omega, y, hy, ⟨h1, h2, h3, h4⟩, rfl, h5⟩
  · rintro ⟨_, _, y, hy, h1, h2, h3⟩
    exact ⟨y, ⟨hy, h1, h3⟩, h2⟩
theorem rawOut_snoc (l : List Rfr) (x : Rfr) (tp a : Int) : rawOut (l ++ [x]) tp a = rawOut l tp a ++ if (cntR x tp && x.f == a) = true then [x.t] else [] := by
  unfold rawOut
  rw [List.filter_append, List.map_append, List.filter_cons]
  split <;> rfl
theorem rawInto_snoc (l : List Rfr) (x : Rfr) (tp a : Int) : rawInto (l ++ [x]) tp a = rawInto l tp a ++ if (cntR x tp && x.t == a) = true then [x.f] else [] := by
  unfold rawInto
  rw [List.filter_append, List.map_append, List.filter_cons]
  split <;> rfl
/-- the error of what is asked -/
def asksE (n : Nat) (tp : Int) (some' : List Int) : Int := if 65536 < n then 2 else if tp < 0 ∨ 1000 < tp then 1 else if some'.any (fun t => decide (t < 0) || decide (tp ≤ t)) = true then 1 else 0
end Go.Proofs.YtkaoipegbjmlnaaDoor
