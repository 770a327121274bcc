/-
  PLAIN LAWS 4 of contents: what stands below, by the chain of parents; the models of Find, Parent, End, Kids.
-/
import Derived.Test.YtigpjfebnppejaaTocPlain3
namespace Go.Proofs.Ytigpjfebnppejaa
open Go.RowKit

theorem Good.par_in {t : List (Int × Int)} (g : Good t) {i k : Nat} (hi : i < k) (hk : k < endp t i) (hn : i < t.length) : ∃ j : Nat, par t k = (j : Int) ∧ i ≤ j ∧ j < k ∧ (j = i ∨ (i < j ∧ j < endp t i)) := by
  have hr := endp_range t i hn
  have hkl : k < t.length := by omega
  have hlk := endFrom_in t (p1 t i) (i + 1) k hi hk
  have hli := g.lev i hn
  have hpl := par_lt t k
  have hne : par t k ≠ -1 := fun h => by
    have := (g.par_none k hkl).1 h; omega
  obtain ⟨j, hj⟩ := Int.eq_ofNat_of_zero_le (a := par t k) (by omega)
  have hij := (g.par_iff j k hkl).1 hj
  have hjl : j < t.length := by omega
  refine ⟨j, hj, ?_, hij.1, ?_⟩
  · apply Nat.le_of_not_lt
    intro hlt
    have h1 := endFrom_in t (p1 t j) (j + 1) i hlt (by have : i < endp t j := by omega
                                                       exact this)
    omega
  · rcases Nat.lt_trichotomy j i with h | h | h
    · have h1 := endFrom_in t (p1 t j) (j + 1) i h (by have : i < endp t j := by omega
                                                       exact this)
      omega
    · exact .inl h
    · exact .inr ⟨h, by omega⟩
/-- the chain of parents of k meets i -/
def ancB (t : List (Int × Int)) (i k : Nat) : Bool :=
  if par t k = (i : Int) then true else if 0 ≤ par t k then ancB t i (par t k).toNat else false
termination_by k
decreasing_by have := par_lt t k; omega
theorem ancB_hit {t : List (Int × Int)} {i k : Nat} (h : par t k = (i : Int)) : ancB t i k = true := by rw [ancB, if_pos h]
theorem ancB_top {t : List (Int × Int)} {i k : Nat} (h : par t k < 0) : ancB t i k = false := by
  rw [ancB, if_neg (by omega), if_neg (by omega)]
theorem ancB_up {t : List (Int × Int)} {i k j : Nat} (h : par t k = (j : Int)) (hne : j ≠ i) : ancB t i k = ancB t i j := by
  rw [ancB, if_neg (by omega), if_pos (by omega), h]; rfl
theorem Good.anc_of {t : List (Int × Int)} (g : Good t) {i : Nat} (hn : i < t.length) (k : Nat) (hi : i < k) (hk : k < endp t i) : ancB t i k = true := by
  obtain ⟨j, h1, h2, h3, h4⟩ := g.par_in hi hk hn
  rcases h4 with rfl | ⟨h4, h5⟩
  · exact ancB_hit h1
  · rw [ancB_up h1 (by omega)]
    exact g.anc_of hn j h4 h5
termination_by k
theorem Good.of_anc {t : List (Int × Int)} (g : Good t) {i : Nat} (hn : i < t.length) (k : Nat) (hk : k < t.length) (h : ancB t i k = true) : i < k ∧ k < endp t i := by
  have hpl := par_lt t k
  by_cases h0 : par t k < 0
  · rw [ancB_top h0] at h; cases h
  · obtain ⟨j, hj⟩ := Int.eq_ofNat_of_zero_le (a := par t k) (by omega)
    have hij := (g.par_iff j k hk).1 hj
    by_cases hji : j = i
    · subst hji; exact ⟨hij.1, hij.2.1⟩
    · rw [ancB_up hj hji] at h
      have hr := g.of_anc hn j (by omega) h
      have := endp_nest t i j hr.1 hr.2 hn
      exact ⟨by omega, by omega⟩
termination_by k
decreasing_by omega
theorem Good.anc_iff {t : List (Int × Int)} (g : Good t) {i : Nat} (hn : i < t.length) (k : Nat) (hk : k < t.length) (hi : i < k) : ancB t i k = decide (k < endp t i) := by
  rw [Bool.eq_iff_iff, decide_eq_true_iff]
  exact ⟨fun h => (g.of_anc hn k hk h).2, fun h => g.anc_of hn k hi h⟩
/-! ### the answers -/
def findT (t : List (Int × Int)) (x : Int) : Int × Bool :=
  if goodE t = 0 then (if atFrom t x 0 < 0 then (0, false) else (atFrom t x 0, true)) else (0, false)
def parentT (t : List (Int × Int)) (i : Int) : Int × Int := if atE t i = 0 then (par t i.toNat, 0) else (0, atE t i)
def endT (t : List (Int × Int)) (i : Int) : Int × Int := if atE t i = 0 then ((endp t i.toNat : Int), 0) else (0, atE t i)
def kidsT (t : List (Int × Int)) (i : Int) : List Int × Int :=
  if goodE t = 0 then (if i < -1 ∨ (t.length : Int) ≤ i then ([], 1) else ((kids t i).map Int.ofNat, 0)) else ([], goodE t)
theorem parentT_bad {t : List (Int × Int)} {i : Int} (h : atE t i ≠ 0) : parentT t i = (0, atE t i) := by rw [parentT, if_neg h]
theorem parentT_in {t : List (Int × Int)} {i : Nat} (h : atE t i = 0) : parentT t i = (par t i, 0) := by rw [parentT, if_pos h]; rfl
theorem endT_bad {t : List (Int × Int)} {i : Int} (h : atE t i ≠ 0) : endT t i = (0, atE t i) := by rw [endT, if_neg h]
theorem endT_in {t : List (Int × Int)} {i : Nat} (h : atE t i = 0) : endT t i = ((endp t i : Int), 0) := by rw [endT, if_pos h]; rfl
theorem kidsT_bad {t : List (Int × Int)} {i : Int} (h : goodE t ≠ 0) : kidsT t i = ([], goodE t) := by rw [kidsT, if_neg h]
theorem kidsT_out {t : List (Int × Int)} {i : Int} (h : goodE t = 0) (h' : i < -1 ∨ (t.length : Int) ≤ i) : kidsT t i = ([], 1) := by rw [kidsT, if_pos h, if_pos h']
theorem kidsT_in {t : List (Int × Int)} {i : Int} (h : goodE t = 0) (h' : ¬ (i < -1 ∨ (t.length : Int) ≤ i)) : kidsT t i = ((kids t i).map Int.ofNat, 0) := by rw [kidsT, if_pos h, if_neg h']
/-- the kids found among the first k -/
def kidsTo (t : List (Int × Int)) (i : Int) (k : Nat) : List Int := ((List.range k).filter fun j => par t j == i).map Int.ofNat
theorem kidsTo_yes {t : List (Int × Int)} {i : Int} {k : Nat} (h : (par t k == i) = true) : kidsTo t i (k + 1) = kidsTo t i k ++ [(k : Int)] := by
  simp [kidsTo, List.range_succ, List.filter_append, h]
theorem kidsTo_no {t : List (Int × Int)} {i : Int} {k : Nat} (h : (par t k == i) = false) : kidsTo t i (k + 1) = kidsTo t i k := by
  simp [kidsTo, List.range_succ, List.filter_append, h]
theorem kidsTo_len (t : List (Int × Int)) (i : Int) (k : Nat) : (kidsTo t i k).length ≤ k := by
  unfold kidsTo
  have := List.length_filter_le (fun j => par t j == i) (List.range k)
  simpa using this
theorem kidsTo_all (t : List (Int × Int)) (i : Int) : kidsTo t i t.length = (kids t i).map Int.ofNat := rfl
end Go.Proofs.Ytigpjfebnppejaa
