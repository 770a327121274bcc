/-
  OCTET, PLAIN: the number that stands at a place.
-/
import Derived.Test.YtaclkoipobgmkaaDoorOctWalksC
namespace Go.Proofs.YtaclkoipobgmkaaDoor
open Go.RowKit

/-- (the number, its bytes, the error) from byte i of the number on, n so far -/
def num (l : List Int) (p : Nat) (i n : Nat) : Nat × Nat × Int :=
  if p + i < l.length then
    (if 9 < i ∨ (i = 9 ∧ 1 < (ix l (p + i)).toNat) then (0, 0, 31)
     else if (ix l (p + i)).toNat < 128 then (if (ix l (p + i)).toNat = 0 ∧ 0 < i then (0, 0, 31) else (n + (ix l (p + i)).toNat * 2 ^ (7 * i), i + 1, 0))
     else num l p (i + 1) (n + ((ix l (p + i)).toNat % 128) * 2 ^ (7 * i)))
  else (0, 0, 30)
termination_by l.length - (p + i)
theorem num_torn {l : List Int} {p i n : Nat} (h : ¬ p + i < l.length) : num l p i n = (0, 0, 30) := by rw [num, if_neg h]
theorem num_form {l : List Int} {p i n : Nat} (h : p + i < l.length) (h' : 9 < i ∨ (i = 9 ∧ 1 < (ix l (p + i)).toNat)) : num l p i n = (0, 0, 31) := by rw [num, if_pos h, if_pos h']
theorem num_zero {l : List Int} {p i n : Nat} (h : p + i < l.length) (h' : ¬ (9 < i ∨ (i = 9 ∧ 1 < (ix l (p + i)).toNat))) (h0 : (ix l (p + i)).toNat = 0) (hi : 0 < i) : num l p i n = (0, 0, 31) := by
  rw [num, if_pos h, if_neg h', if_pos (by omega), if_pos ⟨h0, hi⟩]
theorem num_last {l : List Int} {p i n : Nat} (h : p + i < l.length) (h' : ¬ (9 < i ∨ (i = 9 ∧ 1 < (ix l (p + i)).toNat))) (h1 : (ix l (p + i)).toNat < 128) (h0 : ¬ ((ix l (p + i)).toNat = 0 ∧ 0 < i)) :
    num l p i n = (n + (ix l (p + i)).toNat * 2 ^ (7 * i), i + 1, 0) := by
  rw [num, if_pos h, if_neg h', if_pos h1, if_neg h0]
theorem num_more {l : List Int} {p i n : Nat} (h : p + i < l.length) (h' : ¬ (9 < i ∨ (i = 9 ∧ 1 < (ix l (p + i)).toNat))) (h1 : ¬ (ix l (p + i)).toNat < 128) :
    num l p i n = num l p (i + 1) (n + ((ix l (p + i)).toNat % 128) * 2 ^ (7 * i)) := by
  rw [num, if_pos h, if_neg h', if_neg h1]
/-- what has been read is a number's form again -/
theorem num_spec {l : List Int} (hb : Byt l) {p : Nat} : ∀ (d i n : Nat), l.length - (p + i) = d → i ≤ 10 → n < 2 ^ (7 * i) → (num l p i n).2.2 = 0 → ∃ m, (num l p i n).1 = n + m * 2 ^ (7 * i) ∧ (0 < i → 0 < m) ∧
    (num l p i n).2.1 = i + (puts m).length ∧ p + i + (puts m).length ≤ l.length ∧ (∀ j, j < (puts m).length → ix l (p + i + j) = ix (puts m) j) ∧ m * 2 ^ (7 * i) < 2 ^ 64 := by
  intro d
  induction d with
  | zero =>
    intro i n hd _ _ he
    rw [num_torn (by omega)] at he
    exact absurd he (by decide)
  | succ d ih =>
    intro i n hd hi hn he
    have h : p + i < l.length := by omega
    have hx := hb (p + i) h
    by_cases h' : 9 < i ∨ (i = 9 ∧ 1 < (ix l (p + i)).toNat)
    · rw [num_form h h'] at he; exact absurd he (by decide)
    · by_cases h1 : (ix l (p + i)).toNat < 128
      · by_cases h0 : (ix l (p + i)).toNat = 0 ∧ 0 < i
        · rw [num_zero h h' h0.1 h0.2] at he; exact absurd he (by decide)
        · rw [num_last h h' h1 h0]
          refine ⟨(ix l (p + i)).toNat, rfl, fun hi0 => by omega, by rw [puts_last (by omega)]; rfl, by rw [puts_last (by omega)]; simp; omega, fun j hj => ?_, ?_⟩
          · rw [puts_last (by omega)] at hj ⊢
            obtain rfl : j = 0 := by simpa using hj
            simp only [ix, List.getD_cons_zero, Nat.add_zero] at hx ⊢
            omega
          · by_cases hi9 : i = 9
            · subst hi9
              have : (ix l (p + 9)).toNat ≤ 1 := by omega
              exact Nat.lt_of_le_of_lt (Nat.mul_le_mul_right _ this) (by decide)
            · have hi8 : 7 * i ≤ 56 := by omega
              exact Nat.lt_of_lt_of_le (Nat.mul_lt_mul_of_lt_of_le h1 (Nat.pow_le_pow_right (by decide) hi8) (by decide)) (by decide)
      · have hi8 : i ≤ 8 := by omega
        rw [num_more h h' h1] at he ⊢
        have hp7 : 2 ^ (7 * (i + 1)) = 128 * 2 ^ (7 * i) := by rw [show 7 * (i + 1) = 7 + 7 * i from by omega, Nat.pow_add]
        have hn' : n + ((ix l (p + i)).toNat % 128) * 2 ^ (7 * i) < 2 ^ (7 * (i + 1)) := by
          rw [hp7]
          have : ((ix l (p + i)).toNat % 128 + 1) * 2 ^ (7 * i) ≤ 128 * 2 ^ (7 * i) := Nat.mul_le_mul_right _ (by omega)
          rw [Nat.add_mul, Nat.one_mul] at this
          omega
        obtain ⟨m, e1, e2, e3, e4, e5, e6⟩ := ih (i + 1) _ (by omega) (by omega) hn' he
        have hm := e2 (by omega)
        have hp : puts ((ix l (p + i)).toNat % 128 + 128 * m) = ix l (p + i) :: puts m := by
          rw [puts_more (by omega), show ((ix l (p + i)).toNat % 128 + 128 * m) % 128 = (ix l (p + i)).toNat % 128 from by omega, show ((ix l (p + i)).toNat % 128 + 128 * m) / 128 = m from by omega]
          congr 1
          omega
        refine ⟨(ix l (p + i)).toNat % 128 + 128 * m, ?_, fun _ => by omega, ?_, ?_, fun j hj => ?_, ?_⟩
        · rw [e1, hp7, Nat.add_mul, Nat.mul_comm 128 m, Nat.mul_assoc, Nat.add_assoc]
        · rw [e3, hp]; simp only [List.length_cons]; omega
        · rw [hp]; simp only [List.length_cons]; omega
        · rw [hp] at hj ⊢
          cases j with
          | zero => rfl
          | succ j =>
            have := e5 j (by simpa using hj)
            rw [show p + i + (j + 1) = p + (i + 1) + j from by omega, this]
            simp [ix]
        · rw [hp7, ← Nat.mul_assoc] at e6
          have hb2 : (((ix l (p + i)).toNat % 128 + 128 * m)) * 2 ^ (7 * i) < (m * 128 + 128) * 2 ^ (7 * i) := Nat.mul_lt_mul_of_pos_right (by omega) (Nat.two_pow_pos _)
          refine Nat.lt_of_lt_of_le hb2 ?_
          have h8 : (m + 1) * 2 ^ (7 * (i + 1)) ≤ 2 ^ 64 := by
            have hdiv : 2 ^ 64 = 2 ^ (64 - 7 * (i + 1)) * 2 ^ (7 * (i + 1)) := by rw [← Nat.pow_add]; congr 1; omega
            rw [hdiv]
            refine Nat.mul_le_mul_right _ ?_
            rw [Nat.mul_assoc, ← hp7, hdiv] at e6
            exact Nat.lt_of_mul_lt_mul_right e6
          rw [hp7, ← Nat.mul_assoc] at h8
          rw [show m * 128 + 128 = (m + 1) * 128 from by omega]
          exact h8
end Go.Proofs.YtaclkoipobgmkaaDoor
