/-
  PLAIN LAW, more: tables of numbers; what TocTree counts.
-/
import Derived.Test.YtigpjfebnppejaaTocPlain
namespace Go.Proofs.Ytigpjfebnppejaa

/-! ### tables of numbers -/
def tab (n : Nat) (f : Nat → Int) : List Int := (List.range n).map f
theorem tab_length (n : Nat) (f : Nat → Int) : (tab n f).length = n := by simp [tab]
theorem ix_tab {n k : Nat} {f : Nat → Int} (h : k < n) : ix (tab n f) k = f k := by simp [ix, tab, List.getD, h]
theorem tab_congr {n : Nat} {f g : Nat → Int} (h : ∀ k, k < n → f k = g k) : tab n f = tab n g := List.map_congr_left fun k hk => h k (List.mem_range.1 hk)
theorem tab_set {n c : Nat} {f : Nat → Int} {x : Int} : (tab n f).set c x = tab n fun k => if k = c then x else f k := by
  refine List.ext_getElem (by simp [tab]) fun i h1 h2 => ?_
  simp only [tab, List.getElem_set, List.getElem_map, List.getElem_range]
  by_cases e : i = c
  · subst e; simp
  · rw [if_neg e, if_neg (Ne.symm e)]
theorem tab_zero (n : Nat) : List.replicate n (0 : Int) = tab n fun _ => 0 := by
  refine List.ext_getElem (by simp [tab]) fun i h1 h2 => ?_
  simp [tab]
/-- how often each entry has been met as a kid: all parents below z, and of z's kids the first m -/
def timesF (t : List (Int × Int)) (z : Int) (m : Nat) (k : Nat) : Int := if par t k < z ∨ (par t k = z ∧ k ∈ (kids t z).take m) then 1 else 0
def endsF (t : List (Int × Int)) (z : Int) (k : Nat) : Int := if (k : Int) < z then endp t k else 0
theorem kids_nodup (t : List (Int × Int)) (z : Int) : (kids t z).Nodup := List.Pairwise.filter _ List.nodup_range
theorem kids_get {t : List (Int × Int)} {z : Int} {m : Nat} (h : m < (kids t z).length) : (kids t z)[m] < t.length ∧ par t (kids t z)[m] = z := mem_kids.1 (List.getElem_mem h)
theorem timesF_next {t : List (Int × Int)} {z : Int} {m : Nat} (h : m < (kids t z).length) (k : Nat) : timesF t z (m + 1) k = if k = (kids t z)[m] then 1 else timesF t z m k := by
  have hg := kids_get h
  have hm : k ∈ (kids t z).take (m + 1) ↔ k ∈ (kids t z).take m ∨ k = (kids t z)[m] := by
    rw [List.take_succ_eq_append_getElem h, List.mem_append, List.mem_singleton]
  unfold timesF
  simp only [hm]
  by_cases e : k = (kids t z)[m]
  · rw [if_pos e, if_pos]
    exact .inr ⟨e ▸ hg.2, .inr e⟩
  · rw [if_neg e]
    simp only [e, or_false]
theorem timesF_fresh {t : List (Int × Int)} {z : Int} {m : Nat} (h : m < (kids t z).length) : timesF t z m (kids t z)[m] = 0 := by
  have hg := kids_get h
  unfold timesF
  rw [if_neg]
  rintro (h1 | ⟨_, h2⟩)
  · omega
  · obtain ⟨i, hi, e⟩ := List.mem_take_iff_getElem.1 h2
    have := (List.getElem_inj (kids_nodup t z)).1 e
    omega
theorem timesF_end {t : List (Int × Int)} {z : Int} {k : Nat} (h : k < t.length) : timesF t z (kids t z).length k = timesF t (z + 1) 0 k := by
  unfold timesF
  rw [List.take_length, List.take_zero]
  have : (par t k < z ∨ par t k = z ∧ k ∈ kids t z) ↔ (par t k < z + 1 ∨ par t k = z + 1 ∧ k ∈ ([] : List Nat)) := by
    constructor
    · rintro (h1 | ⟨h1, _⟩) <;> exact .inl (by omega)
    · rintro (h1 | ⟨_, h2⟩)
      · by_cases e' : par t k < z
        · exact .inl e'
        · exact .inr ⟨by omega, mem_kids.2 ⟨h, by omega⟩⟩
      · cases h2
  simp only [this]
theorem timesF_start (t : List (Int × Int)) (k : Nat) : timesF t (-1) 0 k = 0 := by
  unfold timesF
  have := par_lt t k
  rw [if_neg]
  rintro (h1 | ⟨_, h2⟩)
  · omega
  · simp at h2
theorem timesF_all {t : List (Int × Int)} {k : Nat} (h : k < t.length) : timesF t t.length 0 k = 1 := by
  unfold timesF
  have := par_lt t k
  rw [if_pos (.inl (by omega))]
theorem endsF_start (t : List (Int × Int)) (k : Nat) : endsF t (-1) k = 0 := by unfold endsF; rw [if_neg (by omega)]
theorem endsF_skip (t : List (Int × Int)) (k : Nat) : endsF t (-1 + 1) k = 0 := by unfold endsF; rw [if_neg (by omega)]
theorem endsF_next (t : List (Int × Int)) (i k : Nat) : endsF t ((i : Int) + 1) k = if k = i then (endp t i : Int) else endsF t i k := by
  unfold endsF
  by_cases e : k = i
  · rw [if_pos e, e, if_pos (by omega)]
  · rw [if_neg e]
    by_cases e' : (k : Int) < i
    · rw [if_pos e', if_pos (by omega)]
    · rw [if_neg e', if_neg (by omega)]
theorem endsF_all {t : List (Int × Int)} {k : Nat} (h : k < t.length) : endsF t t.length k = endp t k := by unfold endsF; rw [if_pos (by omega)]
end Go.Proofs.Ytigpjfebnppejaa
