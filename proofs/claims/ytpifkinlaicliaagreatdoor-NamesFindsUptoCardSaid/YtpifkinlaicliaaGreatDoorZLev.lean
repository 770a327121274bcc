/-
  NUMBERS IN ORDER, THE NEAREST: plain, over no program.
-/

namespace Go.Proofs.YtpifkinlaicliaaGreatDoor

/-- laid into what is in order, from its end on (the list is told from its end) -/
def insRev (c : Nat → Nat → Int) : List Nat → Nat → List Nat
  | [], i => [i]
  | y :: r, i => if 0 < c y i then y :: insRev c r i else i :: y :: r
/-- the numbers below n, in order -/
def sortTo (c : Nat → Nat → Int) : Nat → List Nat
  | 0 => []
  | n + 1 => (insRev c (sortTo c n).reverse n).reverse

structure OrdC (c : Nat → Nat → Int) : Prop where
  anti : ∀ i j, c j i = -c i j
  trans : ∀ i j k, c i j ≤ 0 → c j k ≤ 0 → c i k ≤ 0

variable {c : Nat → Nat → Int}
theorem insRev_perm (r : List Nat) (i : Nat) : (insRev c r i).Perm (i :: r) := by
  induction r with
  | nil => exact List.Perm.refl _
  | cons y r ih =>
    unfold insRev
    split
    · exact (ih.cons y).trans (List.Perm.swap i y r)
    · exact List.Perm.refl _
theorem sortTo_perm : ∀ n, (sortTo c n).Perm (List.range n)
  | 0 => List.Perm.refl _
  | n + 1 => by
    unfold sortTo
    rw [List.range_succ]
    refine (List.reverse_perm _).trans ((insRev_perm _ _).trans ?_)
    refine (List.Perm.cons n ((List.reverse_perm _).trans (sortTo_perm n))).trans ?_
    exact (List.perm_append_singleton n (List.range n)).symm
theorem sortTo_length (n : Nat) : (sortTo c n).length = n := by rw [(sortTo_perm n).length_eq, List.length_range]
theorem sortTo_mem {n i : Nat} : i ∈ sortTo c n ↔ i < n := by rw [(sortTo_perm n).mem_iff, List.mem_range]
theorem sortTo_nodup (n : Nat) : (sortTo c n).Nodup := (sortTo_perm n).nodup_iff.2 List.nodup_range
theorem insRev_sorted (h : OrdC c) {r : List Nat} {i : Nat} (hr : r.Pairwise fun a b => c b a ≤ 0) : (insRev c r i).Pairwise fun a b => c b a ≤ 0 := by
  induction r with
  | nil => simp [insRev]
  | cons y r ih =>
    rw [List.pairwise_cons] at hr
    unfold insRev
    split
    · rename_i hy
      rw [List.pairwise_cons]
      refine ⟨fun b hb => ?_, ih hr.2⟩
      rw [(insRev_perm r i).mem_iff, List.mem_cons] at hb
      rcases hb with rfl | hb
      · have := h.anti y b; omega
      · exact hr.1 b hb
    · rename_i hy
      rw [List.pairwise_cons, List.pairwise_cons]
      refine ⟨fun b hb => ?_, hr⟩
      rw [List.mem_cons] at hb
      rcases hb with rfl | hb
      · omega
      · exact h.trans b y i (hr.1 b hb) (by omega)
theorem sortTo_sorted (h : OrdC c) : ∀ n, (sortTo c n).Pairwise fun a b => c a b ≤ 0
  | 0 => by simp [sortTo]
  | n + 1 => by
    unfold sortTo
    rw [List.pairwise_reverse]
    refine insRev_sorted h ?_
    rw [List.pairwise_reverse]
    exact sortTo_sorted h n
theorem sortTo_unique (h : OrdC c) {n : Nat} (hd : ∀ i j, i < n → j < n → c i j = 0 → i = j) {l : List Nat} (hp : l.Perm (List.range n)) (hs : l.Pairwise fun a b => c a b ≤ 0) : l = sortTo c n := by
  refine List.Perm.eq_of_pairwise (le := fun a b => c a b ≤ 0) (fun a b ha hb h1 h2 => ?_) hs (sortTo_sorted h n) (hp.trans (sortTo_perm n).symm)
  rw [hp.mem_iff, List.mem_range] at ha
  rw [sortTo_mem] at hb
  have := h.anti a b
  exact hd a b ha hb (by omega)
/-- each behind the one ahead of it, strictly -/
theorem sortTo_strict (h : OrdC c) {n : Nat} (hd : ∀ i j, i < n → j < n → c i j = 0 → i = j) {k : Nat} (hk : k + 1 < n) : c ((sortTo c n).getD k 0) ((sortTo c n).getD (k + 1) 0) < 0 := by
  have hl := sortTo_length (c := c) n
  have h1 := List.pairwise_iff_getElem.1 (sortTo_sorted h n) k (k + 1) (by omega) (by omega) (by omega)
  have h2 := List.pairwise_iff_getElem.1 (sortTo_nodup (c := c) n) k (k + 1) (by omega) (by omega) (by omega)
  have m1 : (sortTo c n)[k]'(by omega) < n := sortTo_mem.1 (List.getElem_mem _)
  have m2 : (sortTo c n)[k + 1]'(by omega) < n := sortTo_mem.1 (List.getElem_mem _)
  have e1 : (sortTo c n).getD k 0 = (sortTo c n)[k]'(by omega) := by simp [List.getD, show k < (sortTo c n).length from by omega]
  have e2 : (sortTo c n).getD (k + 1) 0 = (sortTo c n)[k + 1]'(by omega) := by simp [List.getD, show k + 1 < (sortTo c n).length from by omega]
  rw [e1, e2]
  have h3 := hd _ _ m1 m2
  omega

/-! ### the nearest -/
def nearStep (d : Nat → Nat) (s : Nat × List Nat) (i : Nat) : Nat × List Nat :=
  if d i < s.1 then (d i, [i]) else if d i = s.1 ∧ d i < 4 then (s.1, s.2 ++ [i]) else s
def nearF (d : Nat → Nat) (l : List Nat) : Nat × List Nat := l.foldl (nearStep d) (4, [])
def leastF (d : Nat → Nat) (l : List Nat) : Nat := l.foldl (fun m i => min m (d i)) 4
variable {d : Nat → Nat}
theorem nearF_snoc (l : List Nat) (i : Nat) : nearF d (l ++ [i]) = nearStep d (nearF d l) i := by simp [nearF]
theorem leastF_snoc (l : List Nat) (i : Nat) : leastF d (l ++ [i]) = min (leastF d l) (d i) := by simp [leastF]
theorem snocInd {α : Type} {p : List α → Prop} (h0 : p []) (h1 : ∀ l x, p l → p (l ++ [x])) (l : List α) : p l := by
  have : ∀ n (l : List α), l.length = n → p l := by
    intro n
    induction n with
    | zero => intro l hl; rw [List.eq_nil_of_length_eq_zero hl]; exact h0
    | succ n ih =>
      intro l hl
      have hne : l ≠ [] := by intro e; rw [e] at hl; simp at hl
      rw [← List.dropLast_concat_getLast hne]
      exact h1 _ _ (ih _ (by rw [List.length_dropLast]; omega))
  exact this _ l rfl
theorem leastF_le (l : List Nat) : leastF d l ≤ 4 ∧ ∀ i ∈ l, leastF d l ≤ d i := by
  induction l using snocInd with
  | h0 => simp [leastF]
  | h1 l x ih =>
    rw [leastF_snoc]
    refine ⟨by omega, fun i hi => ?_⟩
    rw [List.mem_append, List.mem_singleton] at hi
    rcases hi with hi | rfl
    · have := ih.2 i hi; omega
    · omega
theorem nearF_eq (l : List Nat) : nearF d l = (leastF d l, l.filter fun i => decide (leastF d l < 4) && decide (d i = leastF d l)) := by
  induction l using snocInd with
  | h0 => rfl
  | h1 l x ih =>
    rw [nearF_snoc, ih, leastF_snoc, nearStep]
    have hl := leastF_le (d := d) l
    by_cases h : d x < leastF d l
    · rw [if_pos h, Nat.min_eq_right (by omega), List.filter_append]
      have : l.filter (fun i => decide (d x < 4) && decide (d i = d x)) = [] := by
        rw [List.filter_eq_nil_iff]
        intro i hi
        have := hl.2 i hi
        have h4 : ¬ d i = d x := by omega
        simp [h4]
      rw [this]
      have h4 : d x < 4 := by omega
      simp [h4]
    · rw [if_neg h, Nat.min_eq_left (by omega), List.filter_append]
      by_cases h2 : d x = leastF d l ∧ d x < 4
      · rw [if_pos h2]
        have h4 : leastF d l < 4 := by omega
        simp [h2.1, h4]
      · rw [if_neg h2]
        have h4 : ¬ (leastF d l < 4 ∧ d x = leastF d l) := by omega
        have h5 : (decide (leastF d l < 4) && decide (d x = leastF d l)) = false := by
          rw [Bool.and_eq_false_iff, decide_eq_false_iff_not, decide_eq_false_iff_not]; omega
        simp [h5]
theorem leastF_perm {l l' : List Nat} (h : l.Perm l') : leastF d l = leastF d l' := by
  unfold leastF
  exact h.foldl_eq' (fun x _ y _ z => by omega) 4
theorem leastF_congr {d' : Nat → Nat} {l : List Nat} (h : ∀ i ∈ l, d i = d' i) : leastF d l = leastF d' l := by
  induction l using snocInd with
  | h0 => rfl
  | h1 l x ih =>
    rw [leastF_snoc, leastF_snoc, ih (fun i hi => h i (by simp [hi])), h x (by simp)]
end Go.Proofs.YtpifkinlaicliaaGreatDoor
/-
  HOW FAR TWO LISTS ARE APART: the table of least steps, and that it is a distance. Plain, over no program.
-/
namespace Go.Proofs.YtpifkinlaicliaaGreatDoor

/-- the steps between the first i of x and the first k of y -/
def lev (x y : List Int) : Nat → Nat → Nat
  | 0, k => k
  | i + 1, 0 => i + 1
  | i + 1, k + 1 => min (lev x y i k + if x.getD i 0 = y.getD k 0 then 0 else 1) (min (lev x y i (k + 1) + 1) (lev x y (i + 1) k + 1))
termination_by i k => (i, k)

def levL (x y : List Int) : Nat := lev x y x.length y.length

theorem lev_0l (x y : List Int) (k : Nat) : lev x y 0 k = k := by rw [lev]
theorem lev_0r (x y : List Int) (i : Nat) : lev x y i 0 = i := by cases i <;> rw [lev]
theorem lev_ss (x y : List Int) (i k : Nat) : lev x y (i + 1) (k + 1) = min (lev x y i k + if x.getD i 0 = y.getD k 0 then 0 else 1) (min (lev x y i (k + 1) + 1) (lev x y (i + 1) k + 1)) := by rw [lev]

theorem lev_comm (x y : List Int) (i k : Nat) : lev x y i k = lev y x k i := by
  induction i generalizing k with
  | zero => rw [lev_0l, lev_0r]
  | succ i ih =>
    induction k with
    | zero => rw [lev_0l, lev_0r]
    | succ k ih' =>
      rw [lev_ss, lev_ss, ih k, ih (k + 1), ih']
      by_cases h : x.getD i 0 = y.getD k 0
      · rw [if_pos h, if_pos h.symm]; omega
      · rw [if_neg h, if_neg (fun e => h e.symm)]; omega

theorem lev_le (x y : List Int) (i k : Nat) : lev x y i k ≤ max i k ∧ i ≤ lev x y i k + k ∧ k ≤ lev x y i k + i := by
  induction i generalizing k with
  | zero => rw [lev_0l]; omega
  | succ i ih =>
    induction k with
    | zero => rw [lev_0r]; omega
    | succ k ih' =>
      rw [lev_ss]
      have h1 := ih k; have h2 := ih (k + 1)
      split <;> omega

theorem lev_tri (x y z : List Int) : ∀ n i j k, i + j + k = n → lev x z i k ≤ lev x y i j + lev y z j k := by
  intro n
  induction n using Nat.strongRecOn with
  | ind n ih =>
    intro i j k hn
    have a1 := lev_le x y i j; have a2 := lev_le y z j k; have a3 := lev_le x z i k
    match i, j, k with
    | 0, j, k => have d1 := lev_0l x z k; have d2 := lev_0l x y j; omega
    | i + 1, j, 0 => have d1 := lev_0r x z (i + 1); have d2 := lev_0r y z j; omega
    | i + 1, 0, k + 1 => have d1 := lev_0r x y (i + 1); have d2 := lev_0l y z (k + 1); omega
    | i + 1, j + 1, k + 1 =>
      have b1 := ih (i + (j + 1) + (k + 1)) (by omega) i (j + 1) (k + 1) rfl
      have b2 := ih ((i + 1) + j + (k + 1)) (by omega) (i + 1) j (k + 1) rfl
      have b3 := ih ((i + 1) + (j + 1) + k) (by omega) (i + 1) (j + 1) k rfl
      have b4 := ih ((i + 1) + j + k) (by omega) (i + 1) j k rfl
      have b5 := ih (i + j + (k + 1)) (by omega) i j (k + 1) rfl
      have b6 := ih (i + j + k) (by omega) i j k rfl
      have c3 := lev_ss x z i k
      have c1 := lev_ss x y i j
      have c2 := lev_ss y z j k
      by_cases e1 : x.getD i 0 = y.getD j 0 <;> by_cases e2 : y.getD j 0 = z.getD k 0
      · rw [if_pos (e1.trans e2)] at c3; rw [if_pos e1] at c1; rw [if_pos e2] at c2; clear e1 e2 a1 a2 a3 ih hn; omega
      · rw [if_pos e1] at c1; rw [if_neg e2] at c2; have c4 : lev x z (i + 1) (k + 1) ≤ lev x z i k + 1 := by (rw [c3]; split <;> omega)
        have c5 : lev x z (i + 1) (k + 1) ≤ lev x z i (k + 1) + 1 := by (rw [c3]; omega)
        have c6 : lev x z (i + 1) (k + 1) ≤ lev x z (i + 1) k + 1 := by (rw [c3]; omega)
        clear c3 e1 e2 a1 a2 a3 ih hn; omega
      · rw [if_neg e1] at c1; rw [if_pos e2] at c2; have c4 : lev x z (i + 1) (k + 1) ≤ lev x z i k + 1 := by (rw [c3]; split <;> omega)
        have c5 : lev x z (i + 1) (k + 1) ≤ lev x z i (k + 1) + 1 := by (rw [c3]; omega)
        have c6 : lev x z (i + 1) (k + 1) ≤ lev x z (i + 1) k + 1 := by (rw [c3]; omega)
        clear c3 e1 e2 a1 a2 a3 ih hn; omega
      · rw [if_neg e1] at c1; rw [if_neg e2] at c2; have c4 : lev x z (i + 1) (k + 1) ≤ lev x z i k + 1 := by (rw [c3]; split <;> omega)
        have c5 : lev x z (i + 1) (k + 1) ≤ lev x z i (k + 1) + 1 := by (rw [c3]; omega)
        have c6 : lev x z (i + 1) (k + 1) ≤ lev x z (i + 1) k + 1 := by (rw [c3]; omega)
        clear c3 e1 e2 a1 a2 a3 ih hn; omega

theorem lev_zero (x y : List Int) (i k : Nat) : lev x y i k = 0 ↔ i = k ∧ ∀ j, j < i → x.getD j 0 = y.getD j 0 := by
  induction i generalizing k with
  | zero => rw [lev_0l]; constructor
            · intro h; exact ⟨h.symm, fun j hj => by omega⟩
            · intro h; exact h.1.symm
  | succ i ih =>
    cases k with
    | zero => rw [lev_0r]; omega
    | succ k =>
      rw [lev_ss]
      have h1 := ih k
      by_cases e : x.getD i 0 = y.getD k 0
      · rw [if_pos e]
        constructor
        · intro h
          have := h1.1 (by omega)
          refine ⟨by omega, fun j hj => ?_⟩
          obtain ⟨rfl, h2⟩ := this
          rcases Nat.lt_or_ge j i with c | c
          · exact h2 j c
          · obtain rfl : j = i := by omega
            exact e
        · rintro ⟨h, h2⟩
          have := h1.2 ⟨by omega, fun j hj => h2 j (by omega)⟩
          omega
      · rw [if_neg e]
        constructor
        · intro h; omega
        · rintro ⟨h, h2⟩
          obtain rfl : i = k := by omega
          exact absurd (h2 i (by omega)) e

theorem levL_comm (x y : List Int) : levL x y = levL y x := lev_comm x y _ _
theorem levL_tri (x y z : List Int) : levL x z ≤ levL x y + levL y z := lev_tri x y z _ _ _ _ rfl
theorem levL_le (x y : List Int) : levL x y ≤ max x.length y.length ∧ x.length ≤ levL x y + y.length ∧ y.length ≤ levL x y + x.length := lev_le x y _ _
theorem levL_zero (x y : List Int) : levL x y = 0 ↔ x = y := by
  unfold levL
  rw [lev_zero]
  constructor
  · rintro ⟨h, h2⟩
    refine List.ext_getElem h fun i h3 h4 => ?_
    have := h2 i h3
    simpa [List.getD, h3, h4] using this
  · rintro rfl
    exact ⟨rfl, fun _ _ => rfl⟩
end Go.Proofs.YtpifkinlaicliaaGreatDoor
