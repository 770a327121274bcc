/-
  OCTET BACK, PLAIN: what was laid is read again.
-/
import Derived.Test.YtaclkoipobgmkaaDoorOctetPutsWalk
namespace Go.Proofs.YtaclkoipobgmkaaDoor
open Go.RowKit

/-- f 0, f 1, .., f (k - 1), one behind the other -/
def catL (f : Nat → List Int) : Nat → List Int
  | 0 => []
  | k + 1 => catL f k ++ f k
theorem catL_split (f : Nat → List Int) {k : Nat} : ∀ {n : Nat}, k < n → ∃ C, catL f n = catL f k ++ (f k ++ C)
  | n + 1, h => by
    by_cases hk : k = n
    · subst hk; exact ⟨[], by rw [catL, List.append_nil]⟩
    · obtain ⟨C, hC⟩ := catL_split f (show k < n by omega)
      exact ⟨C ++ f n, by rw [catL, hC, List.append_assoc, List.append_assoc]⟩
theorem catL_len (f : Nat → List Int) {b : Nat} (hb : ∀ k, (f k).length ≤ b) : ∀ n, (catL f n).length ≤ n * b
  | 0 => by simp [catL]
  | n + 1 => by
    have := catL_len f hb n
    have := hb n
    rw [catL, List.length_append, Nat.add_mul]
    omega
theorem catL_byt (f : Nat → List Int) (hb : ∀ k, Byt (f k)) : ∀ n, Byt (catL f n)
  | 0 => fun i hi => by simp [catL] at hi
  | n + 1 => byt_append (catL_byt f hb n) (hb n)
theorem ix_mid {A q C : List Int} {j : Nat} (hj : j < q.length) : ix (A ++ (q ++ C)) (A.length + j) = ix q j := by
  have h : ¬ A.length + j < A.length := by omega
  simp [ix, List.getD, List.getElem?_append, hj, h]
theorem cut_mid (A q C : List Int) : cutL (A ++ (q ++ C)) A.length q.length = q := by simp [cutL]
theorem num_puts {l : List Int} {p : Nat} : ∀ (d m i n : Nat), m ≤ d → (∀ j, j < (puts m).length → p + i + j < l.length ∧ ix l (p + i + j) = ix (puts m) j) → (0 < i → 0 < m) → m * 2 ^ (7 * i) < 2 ^ 64 →
    num l p i n = (n + m * 2 ^ (7 * i), i + (puts m).length, 0) := by
  intro d
  induction d with
  | zero =>
    intro m i n hd hx hi0 hm
    obtain rfl : m = 0 := by omega
    have hi : i = 0 := by
      rcases Nat.eq_zero_or_pos i with h | h
      · exact h
      · exact absurd (hi0 h) (by omega)
    subst hi
    have hp : puts 0 = [0] := by rw [puts_last (by decide)]; rfl
    obtain ⟨h1, h2⟩ := hx 0 (by rw [hp]; decide)
    rw [hp] at h2
    simp only [Nat.add_zero] at h1 h2
    have h3 : ix l p = 0 := by rw [h2]; rfl
    rw [num_last (by simpa using h1) (by simp) (by simp [h3]) (by simp), hp]
    simp [h3]
  | succ d ih =>
    intro m i n hd hx hi0 hm
    have hi9 : i ≤ 9 ∨ m = 0 := by
      by_cases h : i ≤ 9
      · exact .inl h
      · refine .inr ?_
        rcases Nat.eq_zero_or_pos m with h0 | h0
        · exact h0
        · have h1 : 2 ^ 70 ≤ 2 ^ (7 * i) := Nat.pow_le_pow_right (by decide) (by omega)
          have h2 : 1 * 2 ^ (7 * i) ≤ m * 2 ^ (7 * i) := Nat.mul_le_mul_right _ h0
          omega
    have hi9' : i ≤ 9 := by
      rcases hi9 with h | h
      · exact h
      · rcases Nat.eq_zero_or_pos i with h0 | h0
        · omega
        · exact absurd (hi0 h0) (by omega)
    by_cases hmore : 127 < m
    · have hp := puts_more hmore
      obtain ⟨h1, h2⟩ := hx 0 (by rw [hp]; simp)
      rw [Nat.add_zero] at h1 h2
      have hX : (ix l (p + i)) = ((m % 128 : Nat) : Int) + 128 := by rw [h2, hp]; rfl
      have hXn : (ix l (p + i)).toNat = m % 128 + 128 := by rw [hX]; omega
      have hi8 : i ≤ 8 := by
        by_cases h : i ≤ 8
        · exact h
        · have e : i = 9 := by omega
          subst e
          have : 128 * 2 ^ 63 ≤ m * 2 ^ (7 * 9) := Nat.mul_le_mul (by omega) (by decide)
          omega
      have hpow : 2 ^ (7 * (i + 1)) = 128 * 2 ^ (7 * i) := by rw [show 7 * (i + 1) = 7 + 7 * i from by omega, Nat.pow_add]
      have hdm : m / 128 * (128 * 2 ^ (7 * i)) + m % 128 * 2 ^ (7 * i) = m * 2 ^ (7 * i) := by
        rw [← Nat.mul_assoc, ← Nat.add_mul]
        congr 1
        omega
      rw [num_more h1 (by omega) (by omega), hXn, show (m % 128 + 128) % 128 = m % 128 from by omega]
      have hrec := ih (m / 128) (i + 1) (n + m % 128 * 2 ^ (7 * i)) (by omega) (fun j hj => by
        obtain ⟨g1, g2⟩ := hx (j + 1) (by rw [hp]; simpa using hj)
        rw [show p + i + (j + 1) = p + (i + 1) + j from by omega] at g1 g2
        exact ⟨g1, by rw [g2, hp]; simp [ix]⟩) (fun _ => by omega) (by rw [hpow]; omega)
      rw [hrec, hpow, hp]
      simp only [List.length_cons, Prod.mk.injEq, and_true]
      exact ⟨by omega, by omega⟩
    · have hp := puts_last hmore
      obtain ⟨h1, h2⟩ := hx 0 (by rw [hp]; simp)
      rw [Nat.add_zero] at h1 h2
      have hX : (ix l (p + i)).toNat = m := by rw [h2, hp]; simp [ix]
      have hc : ¬ (9 < i ∨ (i = 9 ∧ 1 < m)) := by
        rintro (h | ⟨h, h'⟩)
        · omega
        · subst h
          have : 2 * 2 ^ 63 ≤ m * 2 ^ (7 * 9) := Nat.mul_le_mul (by omega) (by decide)
          omega
      rw [num_last h1 (by rw [hX]; exact hc) (by rw [hX]; omega) (by rw [hX]; rintro ⟨ha, hb⟩; exact absurd (hi0 hb) (by omega)), hX, hp]
      rfl
theorem uint_mid {A C : List Int} {m : Nat} (hm : m < 18446744073709551616) : uintC (A ++ (puts m ++ C)) A.length 0 = (m, A.length + (puts m).length, 0) := by
  have h := num_puts (l := A ++ (puts m ++ C)) (p := A.length) m m 0 0 (Nat.le_refl _) (fun j hj => ⟨by rw [List.length_append, List.length_append]; omega, ix_mid hj⟩) (by omega) (by simpa using hm)
  simp only [Nat.mul_zero, Nat.pow_zero, Nat.mul_one, Nat.zero_add] at h
  rw [uintC_ok (by rw [h]), h]
theorem take_mid {A q C : List Int} : takeC (A ++ (q ++ C)) A.length 0 (q.length : Nat) = (q, A.length + q.length, 0) := by
  rw [takeC_ok (by simp only [List.length_append]; omega), cut_mid]
theorem lowN_lowL : ∀ (k n : Nat), lowN (lowL n k) = n % 256 ^ k
  | 0, n => by simp [lowN, lowL, Nat.mod_one]
  | k + 1, n => by
    have := lowN_lowL k (n / 256)
    have e : lowN (lowL n (k + 1)) = n % 256 + 256 * lowN (lowL (n / 256) k) := by simp [lowL, lowN]; omega
    rw [e, this, Nat.pow_succ, Nat.mul_comm (256 ^ k), Nat.mod_mul]
theorem zag_zig (n : Int) : zag (zig n) = n := by
  unfold zag zig
  split <;> split <;> omega
theorem bytes_mid {A q C : List Int} (hq : q.length < 18446744073709551616) : bytesC (A ++ ((puts q.length ++ q) ++ C)) A.length 0 (q.length : Nat) = (q, A.length + (puts q.length ++ q).length, 0) := by
  have hu := uint_mid (A := A) (C := q ++ C) hq
  rw [← List.append_assoc (puts _)] at hu
  rw [bytesC_ok (by rw [hu]) (by rw [hu]; simp) (by rw [hu]; simp only [List.length_append]; omega), hu]
  have hc := cut_mid (A ++ puts q.length) q C
  rw [List.length_append, List.append_assoc] at hc
  rw [show A ++ ((puts q.length ++ q) ++ C) = A ++ (puts q.length ++ (q ++ C)) from by rw [List.append_assoc (puts _)]]
  simp only [hc, List.length_append, Nat.add_assoc]
theorem str_bytes (s : ByteArray) : strOfNums (bytesOf s) = s := by
  apply ByteArray.ext
  apply Array.toList_inj.1
  rw [strOfNums_data]
  simp [bytesOf, List.map_map, Function.comp_def]
theorem mayL_bytes (s : ByteArray) : mayL (bytesOf s) = (plainAt s.data.toList 0).2 := by unfold mayL; rw [str_bytes]
theorem text_mid {A C : List Int} {s : ByteArray} (hs : s.size < 18446744073709551616) (hm : (plainAt s.data.toList 0).2 = true) :
    textC (A ++ ((puts s.size ++ bytesOf s) ++ C)) A.length 0 (s.size : Nat) = (s, A.length + (puts s.size ++ bytesOf s).length, 0) := by
  have hb := bytes_mid (A := A) (q := bytesOf s) (C := C) (by rw [bytesOf_len]; exact hs)
  rw [bytesOf_len] at hb
  rw [textC_may (by rw [hb]) (by rw [hb, mayL_bytes]; exact hm), hb, str_bytes]
theorem text_no {A C : List Int} {s : ByteArray} (hs : s.size < 18446744073709551616) (hm : (plainAt s.data.toList 0).2 = false) :
    textC (A ++ ((puts s.size ++ bytesOf s) ++ C)) A.length 0 (s.size : Nat) = (⟨#[]⟩, A.length, 32) := by
  have hb := bytes_mid (A := A) (q := bytesOf s) (C := C) (by rw [bytesOf_len]; exact hs)
  rw [bytesOf_len] at hb
  rw [textC_no (by rw [hb]) (by rw [hb, mayL_bytes]; exact hm)]
/-- what is laid of a number -/
def pieceN (n : Nat) : List Int := (puts n ++ lowL n 2) ++ lowL n 4
theorem pieceN_byt (n : Nat) : Byt (pieceN n) := byt_append (byt_append (puts_byt n) (lowL_byt 2 n)) (lowL_byt 4 n)
/-- a number and its lower bytes read again -/
theorem read_num {A C l : List Int} {X : Nat} (hX : X < 18446744073709551616) (hl : l = A ++ (pieceN X ++ C)) :
    uintC l A.length 0 = (X, A.length + (puts X).length, 0) ∧ takeC l (A.length + (puts X).length) 0 2 = (lowL X 2, A.length + (puts X).length + 2, 0) ∧
      takeC l (A.length + (puts X).length + 2) 0 4 = (lowL X 4, A.length + (puts X).length + 2 + 4, 0) := by
  refine ⟨?_, ?_, ?_⟩
  · rw [hl, pieceN, List.append_assoc, List.append_assoc]
    exact uint_mid hX
  · have := take_mid (A := A ++ puts X) (q := lowL X 2) (C := lowL X 4 ++ C)
    rw [lowL_len, List.length_append] at this
    rw [hl, pieceN, show A ++ (puts X ++ lowL X 2 ++ lowL X 4 ++ C) = A ++ puts X ++ (lowL X 2 ++ (lowL X 4 ++ C)) from by simp only [List.append_assoc]]
    exact this
  · have := take_mid (A := (A ++ puts X) ++ lowL X 2) (q := lowL X 4) (C := C)
    rw [lowL_len, List.length_append, List.length_append, lowL_len] at this
    rw [hl, pieceN, show A ++ (puts X ++ lowL X 2 ++ lowL X 4 ++ C) = A ++ puts X ++ lowL X 2 ++ (lowL X 4 ++ C) from by simp only [List.append_assoc]]
    exact this
theorem pieceN_len (n : Nat) : (pieceN n).length = (puts n).length + 6 := by simp [pieceN, lowL_len]
end Go.Proofs.YtaclkoipobgmkaaDoor
