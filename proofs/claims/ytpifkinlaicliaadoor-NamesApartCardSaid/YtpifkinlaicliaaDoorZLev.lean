/-
  HOW FAR TWO LISTS ARE APART: the table of least steps, and that it is a distance. Plain, over no program.
-/

namespace Go.Proofs.YtpifkinlaicliaaDoor

/-- the steps between the first i of x and the first k of y -/
def lev (x y : List Int) : Nat → Nat → Nat
  | 0, k => k
  | i + 1, 0 => i + 1
  | i + 1, k + 1 => min (lev x y i k + if x.getD i 0 = y.getD k 0 then 0 else 1) (min (lev x y i (k + 1) + 1) (lev x y (i + 1) k + 1))
termination_by i k => (i, k)

def levL (x y : List Int) : Nat := lev x y x.length y.length

theorem lev_0l (x y : List Int) (k : Nat) : lev x y 0 k = k := by rw [lev]
theorem lev_0r (x y : List Int) (i : Nat) : lev x y i 0 = i := by cases i <;> rw [lev]
theorem lev_ss (x y : List Int) (i k : Nat) : lev x y (i + 1) (k + 1) = min (lev x y i k + if x.getD i 0 = y.getD k 0 then 0 else 1) (min (lev x y i (k + 1) + 1) (lev x y (i + 1) k + 1)) := by rw [lev]

theorem lev_comm (x y : List Int) (i k : Nat) : lev x y i k = lev y x k i := by
  induction i generalizing k with
  | zero => rw [lev_0l, lev_0r]
  | succ i ih =>
    induction k with
    | zero => rw [lev_0l, lev_0r]
    | succ k ih' =>
      rw [lev_ss, lev_ss, ih k, ih (k + 1), ih']
      by_cases h : x.getD i 0 = y.getD k 0
      · rw [if_pos h, if_pos h.symm]; omega
      · rw [if_neg h, if_neg (fun e => h e.symm)]; omega

theorem lev_le (x y : List Int) (i k : Nat) : lev x y i k ≤ max i k ∧ i ≤ lev x y i k + k ∧ k ≤ lev x y i k + i := by
  induction i generalizing k with
  | zero => rw [lev_0l]; omega
  | succ i ih =>
    induction k with
    | zero => rw [lev_0r]; omega
    | succ k ih' =>
      rw [lev_ss]
      have h1 := ih k; have h2 := ih (k + 1)
      split <;> omega

theorem lev_tri (x y z : List Int) : ∀ n i j k, i + j + k = n → lev x z i k ≤ lev x y i j + lev y z j k := by
  intro n
  induction n using Nat.strongRecOn with
  | ind n ih =>
    intro i j k hn
    have a1 := lev_le x y i j; have a2 := lev_le y z j k; have a3 := lev_le x z i k
    match i, j, k with
    | 0, j, k => have d1 := lev_0l x z k; have d2 := lev_0l x y j; omega
    | i + 1, j, 0 => have d1 := lev_0r x z (i + 1); have d2 := lev_0r y z j; omega
    | i + 1, 0, k + 1 => have d1 := lev_0r x y (i + 1); have d2 := lev_0l y z (k + 1); omega
    | i + 1, j + 1, k + 1 =>
      have b1 := ih (i + (j + 1) + (k + 1)) (by omega) i (j + 1) (k + 1) rfl
      have b2 := ih ((i + 1) + j + (k + 1)) (by omega) (i + 1) j (k + 1) rfl
      have b3 := ih ((i + 1) + (j + 1) + k) (by omega) (i + 1) (j + 1) k rfl
      have b4 := ih ((i + 1) + j + k) (by omega) (i + 1) j k rfl
      have b5 := ih (i + j + (k + 1)) (by omega) i j (k + 1) rfl
      have b6 := ih (i + j + k) (by omega) i j k rfl
      have c3 := lev_ss x z i k
      have c1 := lev_ss x y i j
      have c2 := lev_ss y z j k
      by_cases e1 : x.getD i 0 = y.getD j 0 <;> by_cases e2 : y.getD j 0 = z.getD k 0
      · rw [if_pos (e1.trans e2)] at c3; rw [if_pos e1] at c1; rw [if_pos e2] at c2; clear e1 e2 a1 a2 a3 ih hn; omega
      · rw [if_pos e1] at c1; rw [if_neg e2] at c2; have c4 : lev x z (i + 1) (k + 1) ≤ lev x z i k + 1 := by (rw [c3]; split <;> omega)
        have c5 : lev x z (i + 1) (k + 1) ≤ lev x z i (k + 1) + 1 := by (rw [c3]; omega)
        have c6 : lev x z (i + 1) (k + 1) ≤ lev x z (i + 1) k + 1 := by (rw [c3]; omega)
        clear c3 e1 e2 a1 a2 a3 ih hn; omega
      · rw [if_neg e1] at c1; rw [if_pos e2] at c2; have c4 : lev x z (i + 1) (k + 1) ≤ lev x z i k + 1 := by (rw [c3]; split <;> omega)
        have c5 : lev x z (i + 1) (k + 1) ≤ lev x z i (k + 1) + 1 := by (rw [c3]; omega)
        have c6 : lev x z (i + 1) (k + 1) ≤ lev x z (i + 1) k + 1 := by (rw [c3]; omega)
        clear c3 e1 e2 a1 a2 a3 ih hn; omega
      · rw [if_neg e1] at c1; rw [if_neg e2] at c2; have c4 : lev x z (i + 1) (k + 1) ≤ lev x z i k + 1 := by (rw [c3]; split <;> omega)
        have c5 : lev x z (i + 1) (k + 1) ≤ lev x z i (k + 1) + 1 := by (rw [c3]; omega)
        have c6 : lev x z (i + 1) (k + 1) ≤ lev x z (i + 1) k + 1 := by (rw [c3]; omega)
        clear c3 e1 e2 a1 a2 a3 ih hn; omega

theorem lev_zero (x y : List Int) (i k : Nat) : lev x y i k = 0 ↔ i = k ∧ ∀ j, j < i → x.getD j 0 = y.getD j 0 := by
  induction i generalizing k with
  | zero => rw [lev_0l]; constructor
            · intro h; exact ⟨h.symm, fun j hj => by omega⟩
            · intro h; exact h.1.symm
  | succ i ih =>
    cases k with
    | zero => rw [lev_0r]; omega
    | succ k =>
      rw [lev_ss]
      have h1 := ih k
      by_cases e : x.getD i 0 = y.getD k 0
      · rw [if_pos e]
        constructor
        · intro h
          have := h1.1 (by omega)
          refine ⟨by omega, fun j hj => ?_⟩
          obtain ⟨rfl, h2⟩ := this
          rcases Nat.lt_or_ge j i with c | c
          · exact h2 j c
          · obtain rfl : j = i := by omega
            exact e
        · rintro ⟨h, h2⟩
          have := h1.2 ⟨by omega, fun j hj => h2 j (by omega)⟩
          omega
      · rw [if_neg e]
        constructor
        · intro h; omega
        · rintro ⟨h, h2⟩
          obtain rfl : i = k := by omega
          exact absurd (h2 i (by omega)) e

theorem levL_comm (x y : List Int) : levL x y = levL y x := lev_comm x y _ _
theorem levL_tri (x y z : List Int) : levL x z ≤ levL x y + levL y z := lev_tri x y z _ _ _ _ rfl
theorem levL_le (x y : List Int) : levL x y ≤ max x.length y.length ∧ x.length ≤ levL x y + y.length ∧ y.length ≤ levL x y + x.length := lev_le x y _ _
theorem levL_zero (x y : List Int) : levL x y = 0 ↔ x = y := by
  unfold levL
  rw [lev_zero]
  constructor
  · rintro ⟨h, h2⟩
    refine List.ext_getElem h fun i h3 h4 => ?_
    have := h2 i h3
    simpa [List.getD, h3, h4] using this
  · rintro rfl
    exact ⟨rfl, fun _ _ => rfl⟩
end Go.Proofs.YtpifkinlaicliaaDoor
