/-
  PLAIN LAW, more: there and back, in good contents.
-/
import Derived.Test.YtigpjfebnppejaaTocPlain2
namespace Go.Proofs.Ytigpjfebnppejaa

theorem Good.at_ {t : List (Int × Int)} (g : Good t) {i : Nat} (hi : i < t.length) : atFrom t (p0 t i) 0 = i := by
  rcases atFrom_cases t (p0 t i) 0 with ⟨_, h⟩ | ⟨j, h1, _, h3, h4, _⟩
  · exact absurd rfl (h i (Nat.zero_le _) hi)
  · rw [h1]
    congr 1
    rcases Nat.lt_trichotomy i j with h | h | h
    · exact absurd h4.symm (g.inj i j h h3)
    · exact h.symm
    · exact absurd h4 (g.inj j i h hi)
theorem Good.next_in {t : List (Int × Int)} (g : Good t) {i : Nat} (hi : i + 1 < t.length) : stepT t (p0 t i) 1 = (p0 t (i + 1), 0) := by
  rw [stepT, if_pos ((goodE_zero t).2 g), g.at_ (by omega), if_neg (by omega)]
  congr 2
theorem Good.next_out {t : List (Int × Int)} (g : Good t) {i : Nat} (hi : i < t.length) (hi' : ¬ i + 1 < t.length) : stepT t (p0 t i) 1 = (0, 3) := by
  rw [stepT, if_pos ((goodE_zero t).2 g), g.at_ hi, if_pos (by omega)]
theorem Good.prev_in {t : List (Int × Int)} (g : Good t) {i : Nat} (hi : i + 1 < t.length) : stepT t (p0 t (i + 1)) (-1) = (p0 t i, 0) := by
  rw [stepT, if_pos ((goodE_zero t).2 g), g.at_ hi, if_neg (by omega)]
  congr 2
  omega
theorem Good.path_of {t : List (Int × Int)} (g : Good t) {i : Nat} (hi : i < t.length) : pathT t (p0 t i) = ((upL t i).reverse, 0) := by
  rw [pathT, if_pos ((goodE_zero t).2 g), g.at_ hi, if_neg (by omega), Int.toNat_natCast]
theorem par_cases (t : List (Int × Int)) (i : Nat) : par t i = -1 ∨ ∃ j : Nat, par t i = (j : Int) ∧ j < i := by
  have h := par_lt t i
  by_cases hn : par t i < 0
  · exact .inl (by omega)
  · obtain ⟨j, hj⟩ := Int.eq_ofNat_of_zero_le (show 0 ≤ par t i by omega)
    exact .inr ⟨j, hj, by omega⟩
theorem Good.upL_len {t : List (Int × Int)} (g : Good t) (i : Nat) (hi : i < t.length) : ((upL t i).length : Int) = p1 t i := by
  rcases par_cases t i with h | ⟨j, h, hj⟩
  · rw [upL_root (by omega), (g.par_none i hi).1 h]; rfl
  · rw [upL_deep h]
    have := Good.upL_len g j (by omega)
    have h2 := ((g.par_iff j i hi).1 h).2.2
    simp only [List.length_cons]
    omega
termination_by i
theorem upL_head (t : List (Int × Int)) (i : Nat) : ix (upL t i) 0 = p0 t i := by rw [upL]; rfl
theorem upL_pos (t : List (Int × Int)) (i : Nat) : 0 < (upL t i).length := by rw [upL]; simp
/-- the d-th of the way up is an entry of its own, and the way goes on from it -/
theorem upL_drop (t : List (Int × Int)) (i : Nat) (hi : i < t.length) (d : Nat) (hd : d < (upL t i).length) : ∃ a, a < t.length ∧ (upL t i).drop d = upL t a := by
  cases d with
  | zero => exact ⟨i, hi, by simp⟩
  | succ d =>
    rcases par_cases t i with h | ⟨j, h, hj⟩
    · rw [upL_root (by omega)] at hd; simp at hd
    · rw [upL_deep h] at hd ⊢
      obtain ⟨a, ha, e⟩ := upL_drop t j (by omega) d (by simpa using hd)
      exact ⟨a, ha, by simpa using e⟩
termination_by i
theorem ix_reverse {l : List Int} {k : Nat} (h : k < l.length) : ix l.reverse k = ix l (l.length - 1 - k) := by
  unfold ix List.getD
  rw [List.getElem?_reverse h]
theorem ix_drop (l : List Int) (d k : Nat) : ix (l.drop d) k = ix l (d + k) := by
  unfold ix List.getD
  rw [List.getElem?_drop]
theorem Good.up_path {t : List (Int × Int)} (g : Good t) {i : Nat} (hi : i < t.length) {k : Nat} (hk : k < (upL t i).length) :
    upT t (ix (upL t i).reverse k) = if k = 0 then (0, 3) else (ix (upL t i).reverse (k - 1), 0) := by
  obtain ⟨a, ha, he⟩ := upL_drop t i hi ((upL t i).length - 1 - k) (by omega)
  have h1 : ix (upL t i).reverse k = p0 t a := by
    rw [ix_reverse hk, ← upL_head, ← he, ix_drop, Nat.add_zero]
  have hl : (upL t a).length = k + 1 := by rw [← he, List.length_drop]; omega
  rw [h1, upT, g.path_of ha]
  simp only [if_true, List.length_reverse, hl]
  by_cases e : k = 0
  · rw [if_pos e, if_pos (by omega)]
  · rw [if_neg e, if_neg (by omega)]
    congr 1
    rw [ix_reverse (by rw [hl]; omega), ix_reverse (by omega), ← he, List.length_drop, ix_drop]
    congr 1
    omega
end Go.Proofs.Ytigpjfebnppejaa
