/-
  OCTET, PLAIN 2: of each number there is one form; forms don't begin alike; what was read is the form again.
-/
import Derived.Test.YtaclkoipobgmkaaDoorOctWalksJ
namespace Go.Proofs.YtaclkoipobgmkaaDoor
open Go.RowKit

theorem puts_pos (n : Nat) : 1 ≤ (puts n).length := by
  by_cases h : 127 < n
  · rw [puts_more h]; simp
  · rw [puts_last h]; simp
theorem puts_begin : ∀ (x y : Nat), (puts x).length ≤ (puts y).length → puts x = (puts y).take (puts x).length → x = y := by
  intro x
  induction x using Nat.strongRecOn with
  | _ x ih =>
    intro y hl h
    by_cases hx : 127 < x
    · rw [puts_more hx] at h hl
      by_cases hy : 127 < y
      · rw [puts_more hy] at h hl
        simp only [List.length_cons, List.take_succ_cons, List.cons.injEq] at h
        have := ih (x / 128) (by omega) (y / 128) (by simpa using hl) h.2
        omega
      · rw [puts_last hy] at h hl
        simp only [List.length_cons, List.length_nil] at hl
        have := puts_pos (x / 128)
        omega
    · rw [puts_last hx] at h
      by_cases hy : 127 < y
      · rw [puts_more hy] at h
        simp at h
        omega
      · rw [puts_last hy] at h
        simp at h
        omega
theorem take_eq_of_ix {l m : List Int} (h : m.length ≤ l.length) (hx : ∀ j, j < m.length → ix l j = ix m j) : l.take m.length = m := by
  refine List.ext_getElem (by simp; omega) fun i h1 h2 => ?_
  have := hx i h2
  rw [ix_get (by omega), ix_get h2] at this
  simpa using this
theorem uint_again {l : List Int} (hb : Byt l) (h : (uintC l 0 0).2.2 = 0) : puts (uintC l 0 0).1 = l.take (uintC l 0 0).2.1 ∧ (uintC l 0 0).2.1 ≤ l.length := by
  have he : (num l 0 0 0).2.2 = 0 := by
    by_cases h' : (num l 0 0 0).2.2 = 0
    · exact h'
    · rw [uintC_fail h'] at h; exact absurd h h'
  obtain ⟨m, e1, _, e3, e4, e5, _⟩ := num_spec hb (p := 0) _ 0 0 rfl (by omega) (by decide) he
  rw [uintC_ok he]
  simp only [Nat.zero_add, Nat.mul_zero, Nat.pow_zero, Nat.mul_one] at e1 e3 e4 e5 ⊢
  rw [e1, e3]
  exact ⟨(take_eq_of_ix e4 e5).symm, e4⟩
theorem Byt.take {l : List Int} (h : Byt l) (k : Nat) : Byt (l.take k) := by
  intro i hi
  rw [List.length_take] at hi
  have := h i (by omega)
  rw [ix_get (by omega)] at this
  rw [ix_get (by rw [List.length_take]; omega)]
  simpa using this
theorem Nums.take {k : IntKind} {w : World} {a : Option Addr} {n cap : Nat} {l : List Int} (h : Nums k w (.slice a n cap) l) {m : Nat} (hm : m ≤ l.length) : Nums k w (.slice a m cap) (l.take m) := by
  obtain ⟨a', cap', b, off, e, h1, h2, ha, ht⟩ := h
  obtain ⟨rfl, rfl, rfl⟩ := Value.slice.inj e
  have hlen : (l.take m).length = m := by rw [List.length_take]; omega
  refine ⟨a, cap, b, off, by rw [hlen], by omega, h2, fun h0 => ha (by omega), fun i hi => ?_⟩
  rw [hlen] at hi
  have := ht i (by omega)
  rw [ix_get (by omega)] at this
  rw [ix_get (by omega)]
  simpa using this
end Go.Proofs.YtaclkoipobgmkaaDoor
