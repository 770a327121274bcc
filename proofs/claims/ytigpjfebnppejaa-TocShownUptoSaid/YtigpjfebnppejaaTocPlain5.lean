/-
  PLAIN LAWS 5 of contents: what is shown.
-/
import Derived.Test.YtigpjfebnppejaaTocPlain3
import Derived.Test.YtigpjfebnppejaaTocPlain2
namespace Go.Proofs.Ytigpjfebnppejaa
open Go.RowKit

/-- is entry i shown, the topics o open? -/
def shB (t : List (Int × Int)) (o : List Int) (i : Nat) : Bool :=
  if par t i < 0 then true else shB t o (par t i).toNat && hasB o (p0 t (par t i).toNat)
termination_by i
decreasing_by have := par_lt t i; omega
theorem shB_root {t : List (Int × Int)} {o : List Int} {i : Nat} (h : par t i < 0) : shB t o i = true := by rw [shB, if_pos h]
theorem shB_deep {t : List (Int × Int)} {o : List Int} {i j : Nat} (h : par t i = (j : Int)) : shB t o i = (shB t o j && hasB o (p0 t j)) := by
  rw [shB, if_neg (by omega), h, Int.toNat_natCast]
def shTo (t : List (Int × Int)) (o : List Int) (k : Nat) : List Int := ((List.range k).filter fun j => shB t o j).map Int.ofNat
theorem shTo_yes {t : List (Int × Int)} {o : List Int} {k : Nat} (h : shB t o k = true) : shTo t o (k + 1) = shTo t o k ++ [(k : Int)] := by
  simp [shTo, List.range_succ, List.filter_append, h]
theorem shTo_no {t : List (Int × Int)} {o : List Int} {k : Nat} (h : shB t o k = false) : shTo t o (k + 1) = shTo t o k := by
  simp [shTo, List.range_succ, List.filter_append, h]
theorem shTo_len (t : List (Int × Int)) (o : List Int) (k : Nat) : (shTo t o k).length ≤ k := by
  unfold shTo
  have := List.length_filter_le (fun j => shB t o j) (List.range k)
  simpa using this
def shownT (t : List (Int × Int)) (o : List Int) : List Int × Int := if goodE t = 0 then (shTo t o t.length, 0) else ([], goodE t)
theorem shownT_good {t : List (Int × Int)} {o : List Int} (h : goodE t = 0) : shownT t o = (shTo t o t.length, 0) := by rw [shownT, if_pos h]
theorem shownT_bad {t : List (Int × Int)} {o : List Int} (h : goodE t ≠ 0) : shownT t o = ([], goodE t) := by rw [shownT, if_neg h]
/-! ### the program's map of the open, the first k of them -/
def opF (o : List Int) (k : Nat) : Int → Int := fun q => if hasB (o.take k) q = true then 1 else 0
theorem opF_zero (o : List Int) : opF o 0 = fun _ => 0 := by funext q; simp [opF, hasB]
theorem hasB_snoc (l : List Int) (x q : Int) : hasB (l ++ [x]) q = (hasB l q || (q == x)) := by
  unfold hasB
  rw [Bool.eq_iff_iff]
  simp
theorem take_ix {o : List Int} {k : Nat} (h : k < o.length) : o.take (k + 1) = o.take k ++ [ix o k] := by
  rw [List.take_succ_eq_append_getElem h]
  simp [ix, List.getD, h]
theorem opF_succ {o : List Int} {k : Nat} (h : k < o.length) : (fun q => if q = ix o k then 1 else opF o k q) = opF o (k + 1) := by
  funext q
  unfold opF
  rw [take_ix h, hasB_snoc]
  by_cases e : q = ix o k
  · rw [if_pos e, if_pos (by simp [e])]
  · have : (q == ix o k) = false := by simpa using e
    rw [if_neg e, this, Bool.or_false]
theorem opF_all (o : List Int) (q : Int) : opF o o.length q = if hasB o q = true then 1 else 0 := by unfold opF; rw [List.take_length]
/-- what has been seen among the first i -/
def seenF (t : List (Int × Int)) (o : List Int) (i j : Nat) : Int := if j < i ∧ shB t o j = true then 1 else 0
theorem seenF_zero (t : List (Int × Int)) (o : List Int) (j : Nat) : seenF t o 0 j = 0 := by simp [seenF]
theorem seenF_yes {t : List (Int × Int)} {o : List Int} {i : Nat} (h : shB t o i = true) (j : Nat) : (if j = i then 1 else seenF t o i j) = seenF t o (i + 1) j := by
  unfold seenF
  by_cases e : j = i
  · subst e; rw [if_pos rfl, if_pos ⟨by omega, h⟩]
  · rw [if_neg e]
    have : j < i + 1 ↔ j < i := by omega
    simp only [this]
theorem seenF_no {t : List (Int × Int)} {o : List Int} {i : Nat} (h : shB t o i = false) (j : Nat) : seenF t o i j = seenF t o (i + 1) j := by
  unfold seenF
  by_cases e : j = i
  · subst e; rw [if_neg (by omega), if_neg (by rw [h]; simp)]
  · have : j < i + 1 ↔ j < i := by omega
    simp only [this]
theorem seenF_at {t : List (Int × Int)} {o : List Int} {i j : Nat} (h : j < i) : seenF t o i j = if shB t o j = true then 1 else 0 := by
  unfold seenF
  simp only [h, true_and]
/-! ### the reference's tables of booleans -/
def tabB (n : Nat) (f : Nat → Bool) : List Bool := (List.range n).map f
def bx (l : List Bool) (k : Nat) : Bool := l.getD k false
theorem tabB_length (n : Nat) (f : Nat → Bool) : (tabB n f).length = n := by simp [tabB]
theorem bx_tab {n k : Nat} {f : Nat → Bool} (h : k < n) : bx (tabB n f) k = f k := by simp [bx, tabB, List.getD, h]
theorem tabB_congr {n : Nat} {f g : Nat → Bool} (h : ∀ k, k < n → f k = g k) : tabB n f = tabB n g := List.map_congr_left fun k hk => h k (List.mem_range.1 hk)
theorem tabB_set {n c : Nat} {f : Nat → Bool} {x : Bool} : (tabB n f).set c x = tabB n fun k => if k = c then x else f k := by
  refine List.ext_getElem (by simp [tabB]) fun i h1 h2 => ?_
  simp only [tabB, List.getElem_set, List.getElem_map, List.getElem_range]
  by_cases e : i = c
  · subst e; simp
  · rw [if_neg e, if_neg (Ne.symm e)]
theorem tabB_zero (n : Nat) : List.replicate n false = tabB n fun _ => false := by
  refine List.ext_getElem (by simp [tabB]) fun i h1 h2 => ?_
  simp [tabB]
/-- which entries the first k of the open unfold -/
def unfF (t : List (Int × Int)) (o : List Int) (k j : Nat) : Bool := hasB (o.take k) (p0 t j)
theorem unfF_zero (t : List (Int × Int)) (o : List Int) (j : Nat) : unfF t o 0 j = false := by simp [unfF, hasB]
theorem unfF_all (t : List (Int × Int)) (o : List Int) (j : Nat) : unfF t o o.length j = hasB o (p0 t j) := by unfold unfF; rw [List.take_length]
theorem Good.unfF_hit {t : List (Int × Int)} (g : Good t) {o : List Int} {k m : Nat} (hk : k < o.length) (h : atFrom t (ix o k) 0 = (m : Int)) (j : Nat) (hj : j < t.length) : (if j = m then true else unfF t o k j) = unfF t o (k + 1) j := by
  unfold unfF
  rw [take_ix hk, hasB_snoc]
  rcases atFrom_cases t (ix o k) 0 with ⟨h1, _⟩ | ⟨m', h1, _, h3, h4, _⟩
  · omega
  · obtain rfl : m = m' := by omega
    by_cases e : j = m
    · subst e; rw [if_pos rfl, h4]; simp
    · rw [if_neg e]
      have : (p0 t j == ix o k) = false := by
        rw [beq_eq_false_iff_ne]
        intro e'
        have a := g.at_ hj
        rw [e', h1] at a
        omega
      rw [this, Bool.or_false]
theorem unfF_miss {t : List (Int × Int)} {o : List Int} {k : Nat} (hk : k < o.length) (h : atFrom t (ix o k) 0 = -1) (j : Nat) (hj : j < t.length) : unfF t o k j = unfF t o (k + 1) j := by
  unfold unfF
  rw [take_ix hk, hasB_snoc]
  rcases atFrom_cases t (ix o k) 0 with ⟨_, h2⟩ | ⟨m', h1, _⟩
  · have : (p0 t j == ix o k) = false := by
      rw [beq_eq_false_iff_ne]
      exact h2 j (by omega) hj
    rw [this, Bool.or_false]
  · omega
def seenR (t : List (Int × Int)) (o : List Int) (i j : Nat) : Bool := decide (j < i) && shB t o j
theorem seenR_zero (t : List (Int × Int)) (o : List Int) (j : Nat) : seenR t o 0 j = false := by simp [seenR]
theorem seenR_next (t : List (Int × Int)) (o : List Int) (i j : Nat) : (if j = i then shB t o i else seenR t o i j) = seenR t o (i + 1) j := by
  unfold seenR
  by_cases e : j = i
  · subst e; simp
  · rw [if_neg e]
    have : j < i + 1 ↔ j < i := by omega
    simp only [this]
theorem seenR_at {t : List (Int × Int)} {o : List Int} {i j : Nat} (h : j < i) : seenR t o i j = shB t o j := by simp [seenR, h]
end Go.Proofs.Ytigpjfebnppejaa
