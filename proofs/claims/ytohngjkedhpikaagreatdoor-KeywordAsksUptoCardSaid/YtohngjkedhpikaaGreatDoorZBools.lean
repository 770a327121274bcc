/-
  PLAIN LAW, over no program: contents as lists of pairs (topic, level): what Check, Find, Parent, End, Kids, Path, Shown say, and that they make a tree.
-/
import Derived.Test.YtohngjkedhpikaaGreatDoorZBase
import Derived.Test.YtohngjkedhpikaaGreatDoorZTextWords
namespace Go.Proofs.YtohngjkedhpikaaGreatDoor

def levelB (l a : Int) : Bool := decide (1 ≤ l) && decide (l ≤ 8) && decide (l ≤ a + 1)
def ahead (t : List (Int × Int)) (k : Nat) : Int := if k = 0 then 0 else p1 t (k - 1)
def seenB (t : List (Int × Int)) (k : Nat) : Bool := (List.range k).any fun i => p0 t i == p0 t k
def badAt (t : List (Int × Int)) (topics : Int) (k : Nat) : Int :=
  if p0 t k < 0 ∨ topics ≤ p0 t k then 1 else if levelB (p1 t k) (ahead t k) = false then 100 else if seenB t k = true then 101 else 0
def chkFrom (t : List (Int × Int)) (topics : Int) (k : Nat) : Int × Int :=
  if k < t.length then (if badAt t topics k = 0 then chkFrom t topics (k + 1) else ((k : Int), badAt t topics k)) else (0, 0)
termination_by t.length - k
def chk (t : List (Int × Int)) (topics : Int) : Int × Int := if 1000 < t.length then (0, 2) else chkFrom t topics 0
def goodE (t : List (Int × Int)) : Int := (chk t 1000).2
def atFrom (t : List (Int × Int)) (x : Int) (k : Nat) : Int := if k < t.length then (if p0 t k = x then (k : Int) else atFrom t x (k + 1)) else -1
termination_by t.length - k
def up (t : List (Int × Int)) (want : Int) : Nat → Int
  | 0 => -1
  | k + 1 => if p1 t k = want then (k : Int) else up t want k
def par (t : List (Int × Int)) (i : Nat) : Int := up t (p1 t i - 1) i
def endFrom (t : List (Int × Int)) (l : Int) (k : Nat) : Nat := if k < t.length ∧ l < p1 t k then endFrom t l (k + 1) else k
termination_by t.length - k
def endp (t : List (Int × Int)) (i : Nat) : Nat := endFrom t (p1 t i) (i + 1)
def kids (t : List (Int × Int)) (i : Int) : List Nat := (List.range t.length).filter fun k => par t k == i

structure Good (t : List (Int × Int)) : Prop where
  len : t.length ≤ 1000
  top : ∀ k, k < t.length → 0 ≤ p0 t k ∧ p0 t k < 1000
  lev : ∀ k, k < t.length → 1 ≤ p1 t k ∧ p1 t k ≤ 8 ∧ p1 t k ≤ ahead t k + 1
  inj : ∀ i k, i < k → k < t.length → p0 t i ≠ p0 t k

theorem atFrom_hit {t : List (Int × Int)} {x : Int} {k : Nat} (h : k < t.length) (e : (p0 t k == x) = true) : atFrom t x k = (k : Int) := by
  rw [atFrom, if_pos h, if_pos (by simpa using e)]
theorem atFrom_miss {t : List (Int × Int)} {x : Int} {k : Nat} (h : k < t.length) (e : (p0 t k == x) = false) : atFrom t x k = atFrom t x (k + 1) := by
  rw [atFrom, if_pos h, if_neg (by simpa using e)]
theorem atFrom_end {t : List (Int × Int)} {x : Int} {k : Nat} (h : ¬ k < t.length) : atFrom t x k = -1 := by
  rw [atFrom, if_neg h]
theorem atFrom_cases (t : List (Int × Int)) (x : Int) (k : Nat) : (atFrom t x k = -1 ∧ ∀ i, k ≤ i → i < t.length → p0 t i ≠ x) ∨ ∃ j : Nat, atFrom t x k = (j : Int) ∧ k ≤ j ∧ j < t.length ∧ p0 t j = x ∧ ∀ i, k ≤ i → i < j → p0 t i ≠ x := by
  by_cases h : k < t.length
  · by_cases e : p0 t k = x
    · exact .inr ⟨k, atFrom_hit h (by simpa using e), Nat.le_refl _, h, e, fun i a b => by omega⟩
    · have hm := atFrom_miss (x := x) h (by simpa using e)
      rcases atFrom_cases t x (k + 1) with ⟨h1, h2⟩ | ⟨j, h1, h2, h3, h4, h5⟩
      · refine .inl ⟨hm.trans h1, fun i a b => ?_⟩
        rcases Nat.eq_or_lt_of_le a with rfl | a
        · exact e
        · exact h2 i a b
      · refine .inr ⟨j, hm.trans h1, by omega, h3, h4, fun i a b => ?_⟩
        rcases Nat.eq_or_lt_of_le a with rfl | a
        · exact e
        · exact h5 i a b
  · exact .inl ⟨atFrom_end h, fun i a b => by omega⟩
termination_by t.length - k

theorem badAt_zero {t : List (Int × Int)} {n : Int} {k : Nat} : badAt t n k = 0 ↔ (0 ≤ p0 t k ∧ p0 t k < n) ∧ levelB (p1 t k) (ahead t k) = true ∧ seenB t k = false := by
  unfold badAt
  by_cases a : p0 t k < 0 ∨ n ≤ p0 t k
  · rw [if_pos a]; constructor
    · intro h; omega
    · rintro ⟨h, _⟩; omega
  · rw [if_neg a]
    by_cases b : levelB (p1 t k) (ahead t k) = false
    · rw [if_pos b]; simp [b]
    · rw [if_neg b]
      by_cases c : seenB t k = true
      · rw [if_pos c]; simp [c]
      · rw [if_neg c]; simp at b c; simp [b, c]; omega
theorem chkFrom_two (t : List (Int × Int)) (n : Int) (k : Nat) : (chkFrom t n k).2 = 0 ↔ ∀ i, k ≤ i → i < t.length → badAt t n i = 0 := by
  by_cases h : k < t.length
  · rw [chkFrom, if_pos h]
    by_cases e : badAt t n k = 0
    · rw [if_pos e, chkFrom_two t n (k + 1)]
      constructor
      · intro g i a b
        rcases Nat.eq_or_lt_of_le a with rfl | a
        · exact e
        · exact g i a b
      · intro g i a b; exact g i (by omega) b
    · rw [if_neg e]
      exact ⟨fun g => absurd g e, fun g => absurd (g k (Nat.le_refl _) h) e⟩
  · rw [chkFrom, if_neg h]
    exact ⟨fun _ i a b => by omega, fun _ => rfl⟩
termination_by t.length - k
theorem seenB_false {t : List (Int × Int)} {k : Nat} : seenB t k = false ↔ ∀ i, i < k → p0 t i ≠ p0 t k := by
  simp [seenB]
theorem goodE_zero (t : List (Int × Int)) : goodE t = 0 ↔ Good t := by
  unfold goodE chk
  by_cases h : 1000 < t.length
  · rw [if_pos h]
    exact ⟨fun g => absurd g (by decide), fun g => absurd g.len (by omega)⟩
  · rw [if_neg h, chkFrom_two]
    constructor
    · intro g
      have g' : ∀ i, i < t.length → _ := fun i hi => badAt_zero.1 (g i (Nat.zero_le _) hi)
      refine ⟨by omega, fun k hk => (g' k hk).1, fun k hk => ?_, fun i k hik hk => seenB_false.1 (g' k hk).2.2 i hik⟩
      have := (g' k hk).2.1
      simpa [levelB, and_assoc] using this
    · intro g i _ hi
      refine badAt_zero.2 ⟨g.top i hi, ?_, seenB_false.2 fun j hj => g.inj j i hj hi⟩
      have := g.lev i hi
      simpa [levelB, and_assoc] using this

theorem up_lt (t : List (Int × Int)) (w : Int) : ∀ k : Nat, -1 ≤ up t w k ∧ up t w k < k
  | 0 => by simp [up]
  | k + 1 => by
    have := up_lt t w k
    rw [up]; split <;> omega
theorem par_lt (t : List (Int × Int)) (i : Nat) : -1 ≤ par t i ∧ par t i < i := up_lt _ _ _
/-- the search upward finds the last one of that level -/
theorem up_iff (t : List (Int × Int)) (w : Int) (j : Nat) : ∀ k : Nat, up t w k = (j : Int) ↔ j < k ∧ p1 t j = w ∧ ∀ m, j < m → m < k → p1 t m ≠ w
  | 0 => by simp [up]
  | k + 1 => by
    rw [up]
    by_cases e : p1 t k = w
    · rw [if_pos e]
      constructor
      · intro h
        obtain rfl : k = j := by omega
        exact ⟨by omega, e, fun m a b => by omega⟩
      · rintro ⟨h1, h2, h3⟩
        by_cases hj : j = k
        · rw [hj]
        · exact absurd e (h3 k (by omega) (by omega))
    · rw [if_neg e, up_iff t w j k]
      constructor
      · rintro ⟨h1, h2, h3⟩
        refine ⟨by omega, h2, fun m a b => ?_⟩
        by_cases hm : m = k
        · rw [hm]; exact e
        · exact h3 m a (by omega)
      · rintro ⟨h1, h2, h3⟩
        have : j ≠ k := fun h => e (h ▸ h2)
        exact ⟨by omega, h2, fun m a b => h3 m a (by omega)⟩
theorem up_none (t : List (Int × Int)) (w : Int) : ∀ k : Nat, up t w k = -1 ↔ ∀ m, m < k → p1 t m ≠ w
  | 0 => by simp [up]
  | k + 1 => by
    rw [up]
    by_cases e : p1 t k = w
    · rw [if_pos e]
      exact ⟨fun h => by omega, fun h => absurd e (h k (by omega))⟩
    · rw [if_neg e, up_none t w k]
      constructor
      · intro h m hm
        by_cases hk : m = k
        · rw [hk]; exact e
        · exact h m (by omega)
      · intro h m hm; exact h m (by omega)

theorem endFrom_ge (t : List (Int × Int)) (l : Int) (k : Nat) : k ≤ endFrom t l k := by
  rw [endFrom]; split
  · have := endFrom_ge t l (k + 1); omega
  · omega
termination_by t.length - k
theorem endFrom_le (t : List (Int × Int)) (l : Int) (k : Nat) (h : k ≤ t.length) : endFrom t l k ≤ t.length := by
  rw [endFrom]; split
  · exact endFrom_le t l (k + 1) (by omega)
  · exact h
termination_by t.length - k
theorem endFrom_in (t : List (Int × Int)) (l : Int) (k m : Nat) (h1 : k ≤ m) (h2 : m < endFrom t l k) : l < p1 t m := by
  rw [endFrom] at h2
  split at h2
  · by_cases e : m = k
    · rw [e]; rename_i h; exact h.2
    · exact endFrom_in t l (k + 1) m (by omega) h2
  · omega
termination_by t.length - k
theorem endFrom_at (t : List (Int × Int)) (l : Int) (k : Nat) (h : endFrom t l k < t.length) : p1 t (endFrom t l k) ≤ l := by
  rw [endFrom] at h ⊢
  split
  · rename_i c
    rw [if_pos c] at h
    exact endFrom_at t l (k + 1) h
  · rename_i c
    rw [if_neg c] at h
    omega
termination_by t.length - k
theorem endp_range (t : List (Int × Int)) (i : Nat) (h : i < t.length) : i < endp t i ∧ endp t i ≤ t.length :=
  ⟨Nat.lt_of_lt_of_le (Nat.lt_succ_self i) (endFrom_ge _ _ _), endFrom_le _ _ _ h⟩
/-- spans lie within one another or apart -/
theorem endp_nest (t : List (Int × Int)) (i k : Nat) (h1 : i < k) (h2 : k < endp t i) (hn : i < t.length) : endp t k ≤ endp t i := by
  have hk := endFrom_in t (p1 t i) (i + 1) k h1 h2
  have he := endp_range t i hn
  by_cases hlt : endp t k ≤ endp t i
  · exact hlt
  · have h3 : endp t i < endFrom t (p1 t k) (k + 1) := by unfold endp at hlt ⊢; omega
    have h4 := endFrom_in t (p1 t k) (k + 1) (endp t i) (by omega) h3
    have h5 : endp t i < t.length := by
      have := endFrom_le t (p1 t k) (k + 1) (by omega)
      omega
    have h6 := endFrom_at t (p1 t i) (i + 1) h5
    unfold endp at h4
    omega

/-- in good contents: from a kid back to its parent all stand deeper -/
theorem Good.down {t : List (Int × Int)} (g : Good t) (l : Int) (k : Nat) (hk : k < t.length) : ∀ d m : Nat, m + d = k → l ≤ p1 t k → (∀ x, m < x → x ≤ k → p1 t x ≠ l) → (0 < d → l < p1 t k) → (0 < d → l ≤ p1 t m)
  | 0, _, _, _, _, _ => fun h => by omega
  | d + 1, m, hm, h1, h2, h3 => fun _ => by
    have hs : l < p1 t (m + 1) := by
      cases d with
      | zero => rw [show m + 1 = k from by omega]; exact h3 (by omega)
      | succ d =>
        have := Good.down g l k hk (d + 1) (m + 1) (by omega) h1 (fun x a b => h2 x (by omega) b) (fun _ => h3 (by omega)) (by omega)
        have hne := h2 (m + 1) (by omega) (by omega)
        omega
    have := (g.lev (m + 1) (by omega)).2.2
    simp [ahead] at this
    omega
/-- a parent is the last entry ahead with a level one less: just if the kid stands in its span, one level down -/
theorem Good.par_iff {t : List (Int × Int)} (g : Good t) (i k : Nat) (hk : k < t.length) : par t k = (i : Int) ↔ i < k ∧ k < endp t i ∧ p1 t k = p1 t i + 1 := by
  unfold par
  rw [up_iff]
  constructor
  · rintro ⟨h1, h2, h3⟩
    refine ⟨h1, ?_, by omega⟩
    have all : ∀ m, i < m → m ≤ k → p1 t i < p1 t m := by
      intro m a b
      by_cases e : m = k
      · rw [e]; omega
      · have := Good.down g (p1 t i) k hk (k - m) m (by omega) (by omega) (fun x a b => ?_) (fun _ => by omega) (by omega)
        · have := h3 m a (by omega); omega
        · by_cases ex : x = k
          · rw [ex]; omega
          · have := h3 x (by omega) (by omega); omega
    by_cases hlt : k < endp t i
    · exact hlt
    · have he := endp_range t i (by omega)
      have h6 := endFrom_at t (p1 t i) (i + 1) (by unfold endp at hlt; omega)
      have h7 := all (endFrom t (p1 t i) (i + 1)) (by unfold endp at he; omega) (by unfold endp at hlt; omega)
      omega
  · rintro ⟨h1, h2, h3⟩
    refine ⟨h1, by omega, fun m a b => ?_⟩
    have := endFrom_in t (p1 t i) (i + 1) m a (by unfold endp at h2; omega)
    omega
theorem Good.par_none {t : List (Int × Int)} (g : Good t) (k : Nat) (hk : k < t.length) : par t k = -1 ↔ p1 t k = 1 := by
  unfold par
  rw [up_none]
  constructor
  · intro h
    by_cases e : p1 t k = 1
    · exact e
    · exfalso
      have hl := g.lev k hk
      have h0 := g.lev 0 (by omega)
      simp [ahead] at h0
      by_cases hk0 : k = 0
      · subst hk0; omega
      · have := Good.down g (p1 t k - 1) k hk k 0 (by omega) (by omega) (fun x a b => ?_) (fun _ => by omega) (by omega)
        · have := h 0 (by omega); omega
        · by_cases ex : x = k
          · rw [ex]; omega
          · exact h x (by omega)
  · intro h m hm
    have := (g.lev m (by omega)).1
    omega
/-- the kids, as the program gathers them -/
theorem Good.kids_root {t : List (Int × Int)} (g : Good t) : kids t (-1) = (List.range t.length).filter fun k => p1 t k == 1 := by
  unfold kids
  refine List.filter_congr fun k hk => ?_
  have hk := List.mem_range.1 hk
  rw [Bool.eq_iff_iff, beq_iff_eq, beq_iff_eq]
  exact g.par_none k hk
theorem Good.kids_in {t : List (Int × Int)} (g : Good t) (i : Nat) : kids t (i : Int) = (List.range t.length).filter fun k => decide (i < k ∧ k < endp t i) && (p1 t k == p1 t i + 1) := by
  unfold kids
  refine List.filter_congr fun k hk => ?_
  have hk := List.mem_range.1 hk
  rw [Bool.eq_iff_iff, beq_iff_eq, Bool.and_eq_true, decide_eq_true_iff, beq_iff_eq, g.par_iff i k hk, and_assoc]
theorem mem_kids {t : List (Int × Int)} {i : Int} {k : Nat} : k ∈ kids t i ↔ k < t.length ∧ par t k = i := by
  simp [kids]

/-! ### steps of the searches, as the walks meet them -/
theorem chkFrom_stop {t : List (Int × Int)} {n : Int} {k : Nat} {e : Int} (h : k < t.length) (hb : badAt t n k = e) (he : e ≠ 0) : chkFrom t n k = ((k : Int), e) := by
  rw [chkFrom, if_pos h, if_neg (by rw [hb]; exact he), hb]
theorem chkFrom_go {t : List (Int × Int)} {n : Int} {k : Nat} (h : k < t.length) (hb : badAt t n k = 0) : chkFrom t n k = chkFrom t n (k + 1) := by
  rw [chkFrom, if_pos h, if_pos hb]
theorem chkFrom_end {t : List (Int × Int)} {n : Int} {k : Nat} (h : ¬ k < t.length) : chkFrom t n k = (0, 0) := by
  rw [chkFrom, if_neg h]
theorem badAt_range {t : List (Int × Int)} {n : Int} {k : Nat} (h : p0 t k < 0 ∨ n ≤ p0 t k) : badAt t n k = 1 := by rw [badAt, if_pos h]
theorem badAt_level {t : List (Int × Int)} {n : Int} {k : Nat} (h : 0 ≤ p0 t k) (h' : p0 t k < n) (g : levelB (p1 t k) (ahead t k) = false) : badAt t n k = 100 := by
  rw [badAt, if_neg (by omega), if_pos g]
theorem badAt_twice {t : List (Int × Int)} {n : Int} {k : Nat} (h : 0 ≤ p0 t k) (h' : p0 t k < n) (g : levelB (p1 t k) (ahead t k) = true) (s : seenB t k = true) : badAt t n k = 101 := by
  rw [badAt, if_neg (by omega), if_neg (by simp [g]), if_pos s]
theorem badAt_fine {t : List (Int × Int)} {n : Int} {k : Nat} (h : 0 ≤ p0 t k) (h' : p0 t k < n) (g : levelB (p1 t k) (ahead t k) = true) (s : seenB t k = false) : badAt t n k = 0 := by
  rw [badAt, if_neg (by omega), if_neg (by simp [g]), if_neg (by simp [s])]
/-- how often a topic stands among the first k -/
def cntP (t : List (Int × Int)) (k : Nat) (x : Int) : Int := ((List.range k).filter fun i => p0 t i == x).length
theorem cntP_zero (t : List (Int × Int)) : cntP t 0 = fun _ => 0 := by funext x; rfl
theorem cntP_nonneg (t : List (Int × Int)) (k : Nat) (x : Int) : 0 ≤ cntP t k x ∧ cntP t k x ≤ k := by
  unfold cntP
  have := List.length_filter_le (fun i => p0 t i == x) (List.range k)
  simp only [List.length_range] at this
  omega
theorem cntP_succ (t : List (Int × Int)) (k : Nat) : cntP t (k + 1) = fun q => if q = p0 t k then cntP t k (p0 t k) + 1 else cntP t k q := by
  funext q
  unfold cntP
  rw [List.range_succ, List.filter_append]
  by_cases e : q = p0 t k
  · rw [if_pos e, e]; simp
  · rw [if_neg e]; simp [Ne.symm e]
theorem seenB_cnt (t : List (Int × Int)) (k : Nat) : seenB t k = decide (0 < cntP t k (p0 t k)) := by
  rw [Bool.eq_iff_iff, decide_eq_true_iff]
  unfold seenB cntP
  simp only [List.any_eq_true, List.mem_range, beq_iff_eq]
  constructor
  · rintro ⟨i, hi, e⟩
    have : i ∈ (List.range k).filter fun i => p0 t i == p0 t k := by simp [hi, e]
    have := List.length_pos_of_mem this
    omega
  · intro h
    have h : 0 < ((List.range k).filter fun i => p0 t i == p0 t k).length := by omega
    obtain ⟨i, hi⟩ := List.exists_mem_of_length_pos h
    simp at hi
    exact ⟨i, hi.1, hi.2⟩
theorem seenB_yes {t : List (Int × Int)} {k : Nat} (h : 0 < cntP t k (p0 t k)) : seenB t k = true := by rw [seenB_cnt]; simpa using h
theorem seenB_no {t : List (Int × Int)} {k : Nat} (h : cntP t k (p0 t k) ≤ 0) : seenB t k = false := by rw [seenB_cnt]; simpa using h
theorem levelB_range {l a : Int} (h : levelB l a = true) : 1 ≤ l ∧ l ≤ 8 := by simp [levelB] at h; omega
theorem ahead_succ (t : List (Int × Int)) (k : Nat) : ahead t (k + 1) = p1 t k := by simp [ahead]
def hasB (l : List Int) (x : Int) : Bool := l.contains x
def eqB (a b : List Int) : Bool := a == b
theorem hasB_yes {l : List Int} {x : Int} {k : Nat} (h : k < l.length) (e : (ix l k == x) = true) : hasB l x = true := by
  unfold hasB
  simp only [ix, List.getD, List.getElem?_eq_getElem h, Option.getD_some, beq_iff_eq] at e
  rw [List.contains_iff_mem, ← e]
  exact List.getElem_mem h
theorem hasB_no {l : List Int} {x : Int} (h : ∀ i, i < l.length → ix l i ≠ x) : hasB l x = false := by
  unfold hasB
  rw [Bool.eq_false_iff]
  intro hc
  obtain ⟨i, hi, e⟩ := List.mem_iff_getElem.1 (List.contains_iff_mem.1 hc)
  refine h i hi ?_
  simp [ix, List.getD, List.getElem?_eq_getElem hi, e]
theorem ints_same {a b : List Int} (h : a.length = b.length) (e : ∀ i, i < a.length → ix a i = ix b i) : a = b := by
  refine List.ext_getElem h fun i h1 h2 => ?_
  have := e i h1
  simpa [ix, List.getD, List.getElem?_eq_getElem h1, List.getElem?_eq_getElem h2] using this
theorem eqB_self (a : List Int) : eqB a a = true := by simp [eqB]
theorem ints_apart {a b : List Int} {k : Nat} (h : ix a k ≠ ix b k) : eqB a b = false := by
  unfold eqB
  rw [beq_eq_false_iff_ne]; rintro rfl; exact h rfl
theorem ints_len {a b : List Int} (h : a.length ≠ b.length) : eqB a b = false := by
  unfold eqB
  rw [beq_eq_false_iff_ne]; rintro rfl; exact h rfl

/-! ### ways by topics -/
def atE (t : List (Int × Int)) (i : Int) : Int := if goodE t = 0 then (if i < 0 ∨ (t.length : Int) ≤ i then 1 else 0) else goodE t
theorem atE_bad {t : List (Int × Int)} {i : Int} (h : goodE t ≠ 0) : atE t i = goodE t := by rw [atE, if_neg h]
theorem atE_out {t : List (Int × Int)} {i : Int} (h : goodE t = 0) (h' : i < 0 ∨ (t.length : Int) ≤ i) : atE t i = 1 := by rw [atE, if_pos h, if_pos h']
theorem atE_in {t : List (Int × Int)} {i : Int} (h : goodE t = 0) (h' : 0 ≤ i) (h'' : i < t.length) : atE t i = 0 := by rw [atE, if_pos h, if_neg (by omega)]
theorem atE_zero {t : List (Int × Int)} {i : Int} (h : atE t i = 0) : goodE t = 0 ∧ 0 ≤ i ∧ i < t.length := by
  unfold atE at h
  by_cases e : goodE t = 0
  · rw [if_pos e] at h
    by_cases e' : i < 0 ∨ (t.length : Int) ≤ i
    · rw [if_pos e'] at h; exact absurd h (by decide)
    · exact ⟨e, by omega, by omega⟩
  · rw [if_neg e] at h; exact absurd h e
def stepT (t : List (Int × Int)) (x b : Int) : Int × Int :=
  if goodE t = 0 then (if atFrom t x 0 < 0 ∨ atFrom t x 0 + b < 0 ∨ (t.length : Int) ≤ atFrom t x 0 + b then (0, 3) else (p0 t (atFrom t x 0 + b).toNat, 0)) else (0, goodE t)
/-- the topics from an entry up to its root -/
def upL (t : List (Int × Int)) (i : Nat) : List Int := p0 t i :: (if par t i < 0 then [] else upL t (par t i).toNat)
termination_by i
decreasing_by have := par_lt t i; omega
theorem upL_root {t : List (Int × Int)} {i : Nat} (h : par t i < 0) : upL t i = [p0 t i] := by rw [upL, if_pos h]
theorem upL_deep {t : List (Int × Int)} {i j : Nat} (h : par t i = (j : Int)) : upL t i = p0 t i :: upL t j := by rw [upL, if_neg (by omega), h, Int.toNat_natCast]
/-- .. of the way up that is still to come at place k (-1: none) -/
def upR (t : List (Int × Int)) (k : Int) : List Int := if k < 0 then [] else upL t k.toNat
theorem upR_step (t : List (Int × Int)) (j : Nat) : upR t (j : Int) = p0 t j :: upR t (par t j) := by
  unfold upR
  rw [if_neg (by omega), Int.toNat_natCast, upL]
theorem upL_length (t : List (Int × Int)) (i : Nat) : (upL t i).length ≤ i + 1 := by
  rw [upL]
  by_cases h : par t i < 0
  · rw [if_pos h]; simp
  · rw [if_neg h]
    have h1 := par_lt t i
    have := upL_length t (par t i).toNat
    simp only [List.length_cons]; omega
termination_by i
decreasing_by have := par_lt t i; omega
def pathT (t : List (Int × Int)) (x : Int) : List Int × Int :=
  if goodE t = 0 then (if atFrom t x 0 < 0 then ([], 3) else ((upL t (atFrom t x 0).toNat).reverse, 0)) else ([], goodE t)
def upT (t : List (Int × Int)) (x : Int) : Int × Int :=
  if (pathT t x).2 = 0 then (if ((pathT t x).1.length : Int) < 2 then (0, 3) else (ix (pathT t x).1 ((pathT t x).1.length - 2), 0)) else (0, (pathT t x).2)
/-! ### a list half reversed -/
def HalfRev (l m : List Int) (k : Nat) : Prop := m.length = l.length ∧ ∀ i, i < l.length → ix m i = if i < k ∨ l.length < i + 1 + k then ix l (l.length - 1 - i) else ix l i
theorem HalfRev.start (l : List Int) : HalfRev l l 0 := ⟨rfl, fun i hi => by rw [if_neg (by omega)]⟩
theorem ix_set {l : List Int} {i j : Nat} {x : Int} (hi : i < l.length) : ix (l.set i x) j = if j = i then x else ix l j := by
  unfold ix List.getD
  by_cases e : j = i
  · rw [if_pos e, e, List.getElem?_set_self hi]; rfl
  · rw [if_neg e, List.getElem?_set_ne (Ne.symm e)]
theorem HalfRev.step {l m : List Int} {k : Nat} (h : HalfRev l m k) (hk : k + k + 1 < l.length) : HalfRev l ((m.set k (ix m (l.length - 1 - k))).set (l.length - 1 - k) (ix m k)) (k + 1) := by
  refine ⟨by simp [h.1], fun i hi => ?_⟩
  have h1 := h.2 k (by omega)
  have h2 := h.2 (l.length - 1 - k) (by omega)
  rw [if_neg (by omega)] at h1 h2
  rw [ix_set (by simp [h.1]; omega)]
  by_cases e : i = l.length - 1 - k
  · rw [if_pos e, if_pos (by omega), h1, e]; congr 1; omega
  · rw [if_neg e, ix_set (by rw [h.1]; omega)]
    by_cases e2 : i = k
    · rw [if_pos e2, if_pos (by omega), h2, e2]
    · rw [if_neg e2, h.2 i hi]
      by_cases e3 : i < k ∨ l.length < i + 1 + k
      · rw [if_pos e3, if_pos (by omega)]
      · rw [if_neg e3, if_neg (by omega)]
theorem HalfRev.done {l m : List Int} {k : Nat} (h : HalfRev l m k) (hk : l.length ≤ k + k + 1) : m = l.reverse := by
  refine ints_same (by simp [h.1]) fun i hi => ?_
  rw [h.1] at hi
  have hr : ix l.reverse i = ix l (l.length - 1 - i) := by
    unfold ix List.getD
    rw [List.getElem?_reverse hi]
  rw [h.2 i hi, hr]
  by_cases e : i < k ∨ l.length < i + 1 + k
  · rw [if_pos e]
  · rw [if_neg e]; congr 1; omega

theorem endFrom_go {t : List (Int × Int)} {l : Int} {k : Nat} (h : k < t.length) (h' : l < p1 t k) : endFrom t l k = endFrom t l (k + 1) := by rw [endFrom, if_pos ⟨h, h'⟩]
theorem endFrom_out {t : List (Int × Int)} {l : Int} {k : Nat} (h : ¬ (k < t.length ∧ l < p1 t k)) : endFrom t l k = k := by rw [endFrom, if_neg h]
/-- what stands below an entry -/
def spanL (t : List (Int × Int)) (i : Nat) : List Nat := List.range' (i + 1) (endp t i - (i + 1))
theorem span_snoc (a b : Nat) (h : a ≤ b) : List.range' a (b + 1 - a) = List.range' a (b - a) ++ [b] := by
  rw [show b + 1 - a = (b - a) + 1 from by omega, List.range'_concat]
  simp; omega
/-- the kids among what stands below -/
def kidsBelow (t : List (Int × Int)) (i : Nat) (l : List Nat) : List Nat := l.filter fun k => p1 t k == p1 t i + 1
theorem kidsBelow_snoc (t : List (Int × Int)) (i : Nat) (l : List Nat) (k : Nat) : kidsBelow t i (l ++ [k]) = if (p1 t k == p1 t i + 1) = true then kidsBelow t i l ++ [k] else kidsBelow t i l := by
  unfold kidsBelow
  rw [List.filter_append]
  by_cases e : (p1 t k == p1 t i + 1) = true
  · rw [if_pos e]; simp [e]
  · rw [if_neg e]; simp [e]
theorem Good.kids_below {t : List (Int × Int)} (g : Good t) (i : Nat) (hi : i < t.length) : kidsBelow t i (spanL t i) = kids t (i : Int) := by
  rw [g.kids_in i]
  unfold kidsBelow spanL
  have he := endp_range t i hi
  have hsplit : List.range t.length = List.range' 0 (i + 1) ++ (List.range' (i + 1) (endp t i - (i + 1)) ++ List.range' (endp t i) (t.length - endp t i)) := by
    have h1 : List.range' 0 (i + 1) ++ List.range' (i + 1) (t.length - (i + 1)) = List.range' 0 t.length := by
      have := @List.range'_append 0 (i + 1) (t.length - (i + 1)) 1
      simpa [show i + 1 + (t.length - (i + 1)) = t.length from by omega] using this
    have h2 : List.range' (i + 1) (endp t i - (i + 1)) ++ List.range' (endp t i) (t.length - endp t i) = List.range' (i + 1) (t.length - (i + 1)) := by
      have := @List.range'_append (i + 1) (endp t i - (i + 1)) (t.length - endp t i) 1
      simpa [show i + 1 + (endp t i - (i + 1)) = endp t i from by omega, show endp t i - (i + 1) + (t.length - endp t i) = t.length - (i + 1) from by omega] using this
    rw [h2, h1, List.range_eq_range']
  rw [hsplit, List.filter_append, List.filter_append]
  have ha : (List.range' 0 (i + 1)).filter (fun k => decide (i < k ∧ k < endp t i) && (p1 t k == p1 t i + 1)) = [] := by
    rw [List.filter_eq_nil_iff]
    intro k hk
    have := List.mem_range'_1.1 hk
    simp; omega
  have hb : (List.range' (endp t i) (t.length - endp t i)).filter (fun k => decide (i < k ∧ k < endp t i) && (p1 t k == p1 t i + 1)) = [] := by
    rw [List.filter_eq_nil_iff]
    intro k hk
    have := List.mem_range'_1.1 hk
    simp; omega
  rw [ha, hb, List.nil_append, List.append_nil]
  refine List.filter_congr fun k hk => ?_
  have := List.mem_range'_1.1 hk
  have hd : decide (i < k ∧ k < endp t i) = true := by simp; omega
  rw [hd, Bool.true_and]

/-- behind the last that came (behind i, if none came) -/
def endOf (i : Nat) (l : List Nat) : Int := match l.getLast? with | some x => (x : Int) + 1 | none => (i : Int) + 1
theorem endOf_snoc (i : Nat) (l : List Nat) (x : Nat) : endOf i (l ++ [x]) = (x : Int) + 1 := by simp [endOf]
theorem endOf_span (t : List (Int × Int)) (i : Nat) (hi : i < t.length) : endOf i (spanL t i) = (endp t i : Int) := by
  have he := endp_range t i hi
  unfold spanL
  by_cases h : endp t i = i + 1
  · rw [h]; simp [endOf]
  · rw [show endp t i - (i + 1) = (endp t i - 1) + 1 - (i + 1) from by omega, span_snoc _ _ (by omega), endOf_snoc]; omega

theorem p0_take {t : List (Int × Int)} {k i : Nat} (h : i < k) : p0 (t.take k) i = p0 t i := by simp [p0, List.getD, h]
theorem p1_take {t : List (Int × Int)} {k i : Nat} (h : i < k) : p1 (t.take k) i = p1 t i := by simp [p1, List.getD, h]
theorem Prs.take {w : World} {a : Option Addr} {n cap : Nat} {t : List (Int × Int)} (h : Prs w (.slice a n cap) t) {k : Nat} (hk : k ≤ t.length) : Prs w (.slice a k cap) (t.take k) := by
  obtain ⟨a', cap', b, off, e, h1, h2, ha, h3, h4⟩ := h
  simp at e
  obtain ⟨rfl, rfl, rfl⟩ := e
  have hl : (t.take k).length = k := by simp; omega
  refine ⟨a, cap, b, off, by rw [hl], by omega, h2, fun hp => ha (by omega), fun i hi W hW => ?_, fun i hi W hW => ?_⟩
  · rw [p0_take (by omega)]; exact h3 i (by omega) W hW
  · rw [p1_take (by omega)]; exact h4 i (by omega) W hW
theorem ahead_take {t : List (Int × Int)} {k : Nat} (h : k ≤ t.length) : ahead (t.take k) (t.take k).length = ahead t k := by
  have hl : (t.take k).length = k := by simp; omega
  rw [hl]
  unfold ahead
  by_cases e : k = 0
  · rw [if_pos e, if_pos e]
  · rw [if_neg e, if_neg e, p1_take (by omega)]
theorem seenB_take {t : List (Int × Int)} {k : Nat} (h : k ≤ t.length) : seenB t k = decide (0 ≤ atFrom (t.take k) (p0 t k) 0) := by
  have hl : (t.take k).length = k := by simp; omega
  rw [Bool.eq_iff_iff, decide_eq_true_iff]
  rcases atFrom_cases (t.take k) (p0 t k) 0 with ⟨h1, h2⟩ | ⟨j, h1, _, h3, h4, _⟩
  · rw [h1]
    constructor
    · intro hs
      simp only [seenB, List.any_eq_true, List.mem_range, beq_iff_eq] at hs
      obtain ⟨i, hi, e⟩ := hs
      exact absurd (by rw [p0_take hi]; exact e) (h2 i (Nat.zero_le _) (by omega))
    · intro h; omega
  · rw [h1]
    constructor
    · intro _; omega
    · intro _
      simp only [seenB, List.any_eq_true, List.mem_range, beq_iff_eq]
      exact ⟨j, by omega, by rw [← h4, p0_take (by omega)]⟩

end Go.Proofs.YtohngjkedhpikaaGreatDoor
/-
  PLAIN LAW, more: there and back, in good contents.
-/
namespace Go.Proofs.YtohngjkedhpikaaGreatDoor

theorem Good.at_ {t : List (Int × Int)} (g : Good t) {i : Nat} (hi : i < t.length) : atFrom t (p0 t i) 0 = i := by
  rcases atFrom_cases t (p0 t i) 0 with ⟨_, h⟩ | ⟨j, h1, _, h3, h4, _⟩
  · exact absurd rfl (h i (Nat.zero_le _) hi)
  · rw [h1]
    congr 1
    rcases Nat.lt_trichotomy i j with h | h | h
    · exact absurd h4.symm (g.inj i j h h3)
    · exact h.symm
    · exact absurd h4 (g.inj j i h hi)
theorem Good.next_in {t : List (Int × Int)} (g : Good t) {i : Nat} (hi : i + 1 < t.length) : stepT t (p0 t i) 1 = (p0 t (i + 1), 0) := by
  rw [stepT, if_pos ((goodE_zero t).2 g), g.at_ (by omega), if_neg (by omega)]
  congr 2
theorem Good.next_out {t : List (Int × Int)} (g : Good t) {i : Nat} (hi : i < t.length) (hi' : ¬ i + 1 < t.length) : stepT t (p0 t i) 1 = (0, 3) := by
  rw [stepT, if_pos ((goodE_zero t).2 g), g.at_ hi, if_pos (by omega)]
theorem Good.prev_in {t : List (Int × Int)} (g : Good t) {i : Nat} (hi : i + 1 < t.length) : stepT t (p0 t (i + 1)) (-1) = (p0 t i, 0) := by
  rw [stepT, if_pos ((goodE_zero t).2 g), g.at_ hi, if_neg (by omega)]
  congr 2
  omega
theorem Good.path_of {t : List (Int × Int)} (g : Good t) {i : Nat} (hi : i < t.length) : pathT t (p0 t i) = ((upL t i).reverse, 0) := by
  rw [pathT, if_pos ((goodE_zero t).2 g), g.at_ hi, if_neg (by omega), Int.toNat_natCast]
theorem par_cases (t : List (Int × Int)) (i : Nat) : par t i = -1 ∨ ∃ j : Nat, par t i = (j : Int) ∧ j < i := by
  have h := par_lt t i
  by_cases hn : par t i < 0
  · exact .inl (by omega)
  · obtain ⟨j, hj⟩ := Int.eq_ofNat_of_zero_le (show 0 ≤ par t i by omega)
    exact .inr ⟨j, hj, by omega⟩
theorem Good.upL_len {t : List (Int × Int)} (g : Good t) (i : Nat) (hi : i < t.length) : ((upL t i).length : Int) = p1 t i := by
  rcases par_cases t i with h | ⟨j, h, hj⟩
  · rw [upL_root (by omega), (g.par_none i hi).1 h]; rfl
  · rw [upL_deep h]
    have := Good.upL_len g j (by omega)
    have h2 := ((g.par_iff j i hi).1 h).2.2
    simp only [List.length_cons]
    omega
termination_by i
theorem upL_head (t : List (Int × Int)) (i : Nat) : ix (upL t i) 0 = p0 t i := by rw [upL]; rfl
theorem upL_pos (t : List (Int × Int)) (i : Nat) : 0 < (upL t i).length := by rw [upL]; simp
/-- the d-th of the way up is an entry of its own, and the way goes on from it -/
theorem upL_drop (t : List (Int × Int)) (i : Nat) (hi : i < t.length) (d : Nat) (hd : d < (upL t i).length) : ∃ a, a < t.length ∧ (upL t i).drop d = upL t a := by
  cases d with
  | zero => exact ⟨i, hi, by simp⟩
  | succ d =>
    rcases par_cases t i with h | ⟨j, h, hj⟩
    · rw [upL_root (by omega)] at hd; simp at hd
    · rw [upL_deep h] at hd ⊢
      obtain ⟨a, ha, e⟩ := upL_drop t j (by omega) d (by simpa using hd)
      exact ⟨a, ha, by simpa using e⟩
termination_by i
theorem ix_reverse {l : List Int} {k : Nat} (h : k < l.length) : ix l.reverse k = ix l (l.length - 1 - k) := by
  unfold ix List.getD
  rw [List.getElem?_reverse h]
theorem ix_drop (l : List Int) (d k : Nat) : ix (l.drop d) k = ix l (d + k) := by
  unfold ix List.getD
  rw [List.getElem?_drop]
theorem Good.up_path {t : List (Int × Int)} (g : Good t) {i : Nat} (hi : i < t.length) {k : Nat} (hk : k < (upL t i).length) :
    upT t (ix (upL t i).reverse k) = if k = 0 then (0, 3) else (ix (upL t i).reverse (k - 1), 0) := by
  obtain ⟨a, ha, he⟩ := upL_drop t i hi ((upL t i).length - 1 - k) (by omega)
  have h1 : ix (upL t i).reverse k = p0 t a := by
    rw [ix_reverse hk, ← upL_head, ← he, ix_drop, Nat.add_zero]
  have hl : (upL t a).length = k + 1 := by rw [← he, List.length_drop]; omega
  rw [h1, upT, g.path_of ha]
  simp only [if_true, List.length_reverse, hl]
  by_cases e : k = 0
  · rw [if_pos e, if_pos (by omega)]
  · rw [if_neg e, if_neg (by omega)]
    congr 1
    rw [ix_reverse (by rw [hl]; omega), ix_reverse (by omega), ← he, List.length_drop, ix_drop]
    congr 1
    omega
end Go.Proofs.YtohngjkedhpikaaGreatDoor
/-
  PLAIN LAWS 5 of contents: what is shown.
-/
namespace Go.Proofs.YtohngjkedhpikaaGreatDoor
open Go.RowKit

/-- is entry i shown, the topics o open? -/
def shB (t : List (Int × Int)) (o : List Int) (i : Nat) : Bool :=
  if par t i < 0 then true else shB t o (par t i).toNat && hasB o (p0 t (par t i).toNat)
termination_by i
decreasing_by have := par_lt t i; omega
theorem shB_root {t : List (Int × Int)} {o : List Int} {i : Nat} (h : par t i < 0) : shB t o i = true := by rw [shB, if_pos h]
theorem shB_deep {t : List (Int × Int)} {o : List Int} {i j : Nat} (h : par t i = (j : Int)) : shB t o i = (shB t o j && hasB o (p0 t j)) := by
  rw [shB, if_neg (by omega), h, Int.toNat_natCast]
def shTo (t : List (Int × Int)) (o : List Int) (k : Nat) : List Int := ((List.range k).filter fun j => shB t o j).map Int.ofNat
theorem shTo_yes {t : List (Int × Int)} {o : List Int} {k : Nat} (h : shB t o k = true) : shTo t o (k + 1) = shTo t o k ++ [(k : Int)] := by
  simp [shTo, List.range_succ, List.filter_append, h]
theorem shTo_no {t : List (Int × Int)} {o : List Int} {k : Nat} (h : shB t o k = false) : shTo t o (k + 1) = shTo t o k := by
  simp [shTo, List.range_succ, List.filter_append, h]
theorem shTo_len (t : List (Int × Int)) (o : List Int) (k : Nat) : (shTo t o k).length ≤ k := by
  unfold shTo
  have := List.length_filter_le (fun j => shB t o j) (List.range k)
  simpa using this
def shownT (t : List (Int × Int)) (o : List Int) : List Int × Int := if goodE t = 0 then (shTo t o t.length, 0) else ([], goodE t)
theorem shownT_good {t : List (Int × Int)} {o : List Int} (h : goodE t = 0) : shownT t o = (shTo t o t.length, 0) := by rw [shownT, if_pos h]
theorem shownT_bad {t : List (Int × Int)} {o : List Int} (h : goodE t ≠ 0) : shownT t o = ([], goodE t) := by rw [shownT, if_neg h]
/-! ### the program's map of the open, the first k of them -/
def opF (o : List Int) (k : Nat) : Int → Int := fun q => if hasB (o.take k) q = true then 1 else 0
theorem opF_zero (o : List Int) : opF o 0 = fun _ => 0 := by funext q; simp [opF, hasB]
theorem hasB_snoc (l : List Int) (x q : Int) : hasB (l ++ [x]) q = (hasB l q || (q == x)) := by
  unfold hasB
  rw [Bool.eq_iff_iff]
  simp
theorem take_ix {o : List Int} {k : Nat} (h : k < o.length) : o.take (k + 1) = o.take k ++ [ix o k] := by
  rw [List.take_succ_eq_append_getElem h]
  simp [ix, List.getD, h]
theorem opF_succ {o : List Int} {k : Nat} (h : k < o.length) : (fun q => if q = ix o k then 1 else opF o k q) = opF o (k + 1) := by
  funext q
  unfold opF
  rw [take_ix h, hasB_snoc]
  by_cases e : q = ix o k
  · rw [if_pos e, if_pos (by simp [e])]
  · have : (q == ix o k) = false := by simpa using e
    rw [if_neg e, this, Bool.or_false]
theorem opF_all (o : List Int) (q : Int) : opF o o.length q = if hasB o q = true then 1 else 0 := by unfold opF; rw [List.take_length]
/-- what has been seen among the first i -/
def seenF (t : List (Int × Int)) (o : List Int) (i j : Nat) : Int := if j < i ∧ shB t o j = true then 1 else 0
theorem seenF_zero (t : List (Int × Int)) (o : List Int) (j : Nat) : seenF t o 0 j = 0 := by simp [seenF]
theorem seenF_yes {t : List (Int × Int)} {o : List Int} {i : Nat} (h : shB t o i = true) (j : Nat) : (if j = i then 1 else seenF t o i j) = seenF t o (i + 1) j := by
  unfold seenF
  by_cases e : j = i
  · subst e; rw [if_pos rfl, if_pos ⟨by omega, h⟩]
  · rw [if_neg e]
    have : j < i + 1 ↔ j < i := by omega
    simp only [this]
theorem seenF_no {t : List (Int × Int)} {o : List Int} {i : Nat} (h : shB t o i = false) (j : Nat) : seenF t o i j = seenF t o (i + 1) j := by
  unfold seenF
  by_cases e : j = i
  · subst e; rw [if_neg (by omega), if_neg (by rw [h]; simp)]
  · have : j < i + 1 ↔ j < i := by omega
    simp only [this]
theorem seenF_at {t : List (Int × Int)} {o : List Int} {i j : Nat} (h : j < i) : seenF t o i j = if shB t o j = true then 1 else 0 := by
  unfold seenF
  simp only [h, true_and]
/-! ### the reference's tables of booleans -/
def tabB (n : Nat) (f : Nat → Bool) : List Bool := (List.range n).map f
def bx (l : List Bool) (k : Nat) : Bool := l.getD k false
theorem tabB_length (n : Nat) (f : Nat → Bool) : (tabB n f).length = n := by simp [tabB]
theorem bx_tab {n k : Nat} {f : Nat → Bool} (h : k < n) : bx (tabB n f) k = f k := by simp [bx, tabB, List.getD, h]
theorem tabB_congr {n : Nat} {f g : Nat → Bool} (h : ∀ k, k < n → f k = g k) : tabB n f = tabB n g := List.map_congr_left fun k hk => h k (List.mem_range.1 hk)
theorem tabB_set {n c : Nat} {f : Nat → Bool} {x : Bool} : (tabB n f).set c x = tabB n fun k => if k = c then x else f k := by
  refine List.ext_getElem (by simp [tabB]) fun i h1 h2 => ?_
  simp only [tabB, List.getElem_set, List.getElem_map, List.getElem_range]
  by_cases e : i = c
  · subst e; simp
  · rw [if_neg e, if_neg (Ne.symm e)]
theorem tabB_zero (n : Nat) : List.replicate n false = tabB n fun _ => false := by
  refine List.ext_getElem (by simp [tabB]) fun i h1 h2 => ?_
  simp [tabB]
/-- which entries the first k of the open unfold -/
def unfF (t : List (Int × Int)) (o : List Int) (k j : Nat) : Bool := hasB (o.take k) (p0 t j)
theorem unfF_zero (t : List (Int × Int)) (o : List Int) (j : Nat) : unfF t o 0 j = false := by simp [unfF, hasB]
theorem unfF_all (t : List (Int × Int)) (o : List Int) (j : Nat) : unfF t o o.length j = hasB o (p0 t j) := by unfold unfF; rw [List.take_length]
theorem Good.unfF_hit {t : List (Int × Int)} (g : Good t) {o : List Int} {k m : Nat} (hk : k < o.length) (h : atFrom t (ix o k) 0 = (m : Int)) (j : Nat) (hj : j < t.length) : (if j = m then true else unfF t o k j) = unfF t o (k + 1) j := by
  unfold unfF
  rw [take_ix hk, hasB_snoc]
  rcases atFrom_cases t (ix o k) 0 with ⟨h1, _⟩ | ⟨m', h1, _, h3, h4, _⟩
  · omega
  · obtain rfl : m = m' := by omega
    by_cases e : j = m
    · subst e; rw [if_pos rfl, h4]; simp
    · rw [if_neg e]
      have : (p0 t j == ix o k) = false := by
        rw [beq_eq_false_iff_ne]
        intro e'
        have a := g.at_ hj
        rw [e', h1] at a
        omega
      rw [this, Bool.or_false]
theorem unfF_miss {t : List (Int × Int)} {o : List Int} {k : Nat} (hk : k < o.length) (h : atFrom t (ix o k) 0 = -1) (j : Nat) (hj : j < t.length) : unfF t o k j = unfF t o (k + 1) j := by
  unfold unfF
  rw [take_ix hk, hasB_snoc]
  rcases atFrom_cases t (ix o k) 0 with ⟨_, h2⟩ | ⟨m', h1, _⟩
  · have : (p0 t j == ix o k) = false := by
      rw [beq_eq_false_iff_ne]
      exact h2 j (by omega) hj
    rw [this, Bool.or_false]
  · omega
def seenR (t : List (Int × Int)) (o : List Int) (i j : Nat) : Bool := decide (j < i) && shB t o j
theorem seenR_zero (t : List (Int × Int)) (o : List Int) (j : Nat) : seenR t o 0 j = false := by simp [seenR]
theorem seenR_next (t : List (Int × Int)) (o : List Int) (i j : Nat) : (if j = i then shB t o i else seenR t o i j) = seenR t o (i + 1) j := by
  unfold seenR
  by_cases e : j = i
  · subst e; simp
  · rw [if_neg e]
    have : j < i + 1 ↔ j < i := by omega
    simp only [this]
theorem seenR_at {t : List (Int × Int)} {o : List Int} {i j : Nat} (h : j < i) : seenR t o i j = shB t o j := by simp [seenR, h]
end Go.Proofs.YtohngjkedhpikaaGreatDoor
/-
  OWNED ROWS OF BOOLEANS; one number appended to a row, over no program.
-/
namespace Go.Proofs.YtohngjkedhpikaaGreatDoor
open Go.RowKit

def OwnB (E : TypeId) (w0 w : World) (v : Value) (l : List Bool) : Prop := w.ownsRow w0.heap.size E 1 v l.length (l.map (.bool))
theorem OwnB.nil (E : TypeId) (w0 w : World) : OwnB E w0 w (.slice none 0 0) [] := World.ownsRow_nil w _ E 1
theorem OwnB.kept {E : TypeId} {w0 w w' : World} {v : Value} {l : List Bool} {row : Option Nat} (h : OwnB E w0 w v l) (hg : w.grownBy w' row) (hne : v.ownBlock = none ∨ v.ownBlock ≠ row) : OwnB E w0 w' v l := World.ownsRow.kept h hg hne
theorem OwnB.alloc {E : TypeId} {w0 w : World} {v : Value} {l : List Bool} (h : OwnB E w0 w v l) (o : Obj) : OwnB E w0 (w.alloc o) v l := World.ownsRow.alloc h o
theorem OwnB.old {E : TypeId} {w0 w w' : World} {v : Value} {l : List Bool} (h : OwnB E w0 w v l) (o : Old w w') : OwnB E w0 w' v l := by
  have hg := Old.grownBy o none
  exact World.ownsRow.kept h hg (by cases hv : v.ownBlock <;> simp)
theorem OwnB.len {E : TypeId} {w0 w : World} {a : Option Addr} {n cap : Nat} {l : List Bool} (h : OwnB E w0 w (.slice a n cap) l) : n = l.length := by
  obtain ⟨a', cap', e, _⟩ := ownsRow_form h
  simp at e
  exact e.2.1
theorem OwnB.block {E : TypeId} {w0 w : World} {a : Option Addr} {n cap : Nat} {l : List Bool} (h : OwnB E w0 w (.slice a n cap) l) (hl : 0 < l.length) : ∃ g, a = some ⟨g, 0, none⟩ ∧ w0.heap.size ≤ g ∧ g < w.heap.size := by
  obtain ⟨h1, ⟨h2, h0⟩ | ⟨g, c, cur, e, hb, hg, _⟩⟩ := h
  · omega
  · simp at e
    exact ⟨g, e.1, hb, (Array.getElem?_eq_some_iff.1 hg).1⟩
theorem OwnB.cell {E : TypeId} {w0 w : World} {g n cap : Nat} {l : List Bool} (h : OwnB E w0 w (.slice (some ⟨g, 0, none⟩) n cap) l) {k : Nat} (hk : k < l.length) : w.cell? ⟨g, k, none⟩ = some (.bool (bx l k)) := by
  obtain rfl := h.len
  rw [World.ownsRow.cellAt h k (by omega)]
  simp [bx, List.getD, hk]
theorem OwnB.frozen {E : TypeId} {w0 w : World} {g n cap : Nat} {l : List Bool} (h : OwnB E w0 w (.slice (some ⟨g, 0, none⟩) n cap) l) (k : Nat) : w.frozen? ⟨g, k, none⟩ = false := by
  obtain rfl := h.len
  exact World.ownsRow.frozenAt h k
theorem OwnB.stored {E : TypeId} {w0 w : World} {g n cap : Nat} {l : List Bool} (h : OwnB E w0 w (.slice (some ⟨g, 0, none⟩) n cap) l) (k : Nat) (x : Bool) : OwnB E w0 (w.setCell ⟨g, k, none⟩ (.bool x)) (.slice (some ⟨g, 0, none⟩) n cap) (l.set k x) := by
  obtain rfl := h.len
  have := (World.ownsRow.stored h k (.bool x)).1
  unfold OwnB
  rw [List.length_set, List.map_set]
  exact this
theorem OwnB.drew {E : TypeId} {w0 w : World} {v : Value} {l : List Bool} (h : OwnB E w0 w v l) : OwnB E w0 w.drew v l := h
theorem OwnB.lower {E : TypeId} {w0 w1 w : World} {v : Value} {l : List Bool} (h : OwnB E w1 w v l) (hs : w0.heap.size ≤ w1.heap.size) : OwnB E w0 w v l := by
  obtain ⟨h1, h2⟩ := h
  refine ⟨h1, ?_⟩
  rcases h2 with h2 | ⟨g, cap, cur, e, hb, r⟩
  · exact .inl h2
  · exact .inr ⟨g, cap, cur, e, Nat.le_trans hs hb, r⟩
theorem OwnB.but {E : TypeId} {w0 w w' : World} {a : Option Addr} {n cap : Nat} {l : List Bool} {g : Nat} (h : OwnB E w0 w (.slice a n cap) l) (o : OldBut g w w') (hg : ∀ x, a = some x → x.block ≠ g) : OwnB E w0 w' (.slice a n cap) l := by
  obtain ⟨h1, h2⟩ := h
  refine ⟨h1, ?_⟩
  rcases h2 with h2 | ⟨g', cap', cur, e, hb, hc, r⟩
  · exact .inl h2
  · refine .inr ⟨g', cap', cur, e, hb, ?_, r⟩
    simp at e
    rw [o.block g' (Array.getElem?_eq_some_iff.1 hc).1 (hg _ e.1)]
    exact hc
theorem OwnB.setCell_other {E : TypeId} {w0 w : World} {a : Option Addr} {n cap : Nat} {l : List Bool} {g o : Nat} (h : OwnB E w0 w (.slice a n cap) l) (v : Value) (hg : ∀ x, a = some x → x.block ≠ g) : OwnB E w0 (w.setCell ⟨g, o, none⟩ v) (.slice a n cap) l :=
  h.but ((OldBut.refl g w).setCell o v) hg
section
variable {P : Program} {ops : Array Oper} {rest : List Oper} {o : Oper} {a : Act} {Q : Exit → Act → World → Prop}
theorem wpList_make_bools {w0 w : World} (hg : o.guard = none) (l c : Operand) (T : TypeId) (hop : o.op = Op.makeSlice T l c) (E : TypeId) (ht : P.underlying T = some (.slice E))
    (hinfo : (P.info? E).map (fun i => (i.zero, i.size, i.bytes)) = some (some (.bool false), 1, 1)) (n : Nat) (hl : a.eval l = .int .i64 n) (hc : a.eval c = .int .i64 n) (hn : n ≤ 1073741824) (hold : Old w0 w)
    (hK : ∀ w', OwnB E w0 w' (.slice (some ⟨w.heap.size, 0, none⟩) n n) (List.replicate n false) → Old w w' → w.heap.size < w'.heap.size → wpList P ops Q rest (a.put o.dst (.slice (some ⟨w.heap.size, 0, none⟩) n n)) w') : wpList P ops Q (o :: rest) a w := by
  obtain ⟨i, hi, hz0, hz1, hz2⟩ := info_parts hinfo
  refine wpList_make_full w hg l c T hop w0.heap.size E i (.bool false) 1 ht hi hz0 hz1 .i64 .i64 n n n hl hc rfl rfl (by rw [hz2]; omega) (by simp [maxLen]; omega) hold.size fun w' h1 h2 => ?_
  refine hK w' ?_ ⟨h2.os, h2.tape, h2.output, h2.size, fun k hk => h2.block k hk (by simp)⟩ (h1.lt _ rfl).2
  unfold OwnB
  rw [List.length_replicate, List.map_replicate]
  simpa [toList_madeCells_one, Value.cells] using h1
/-- append of one number to a row that is owned from any place on; nothing is said of what lies ahead but that it is kept -/
theorem wpList_append_int1 {w0 w : World} (hgd : o.guard = none) (s x : Operand) (T : TypeId) (ho : o.op = .call { callee := .builtin .append, args := #[s, x], argTypes := #[T, T] })
    (E : TypeId) (ht : P.underlying T = some (.slice E)) (hinfo : (P.info? E).map (fun i => (i.zero, i.size, i.bytes)) = some (some (.int .i64 0), 1, 8))
    (v : Value) (l : List Int) (hs : a.eval s = v) (hown : OwnI E w0 w v l) (b : Nat) (y : Int) (hx : a.eval x = .slice (some ⟨b, 0, none⟩) 1 1) (hc : w.cell? ⟨b, 0, none⟩ = some (.int .i64 y))
    (hbytes : (l.length + 1) * 8 ≤ 140737488355328) (hold : w0.heap.size ≤ w.heap.size)
    (h : ∀ v' w', OwnI E w0 w' v' (l ++ [y]) → w.grownBy w' v.ownBlock → wpList P ops Q rest (a.put o.dst v') w') : wpList P ops Q (o :: rest) a w := by
  obtain ⟨i, hi, hz0, hz1, hz2⟩ := info_parts hinfo
  refine wpList_append_own w hgd s x T ho w0.heap.size E i (.int .i64 0) 1 8 ht hi hz0 hz1 hz2 rfl (by decide) v l.length (l.map (.int .i64)) hs hown ⟨b, 0, none⟩ 1 1 [.int .i64 y] hx rfl ?_ (by simp [Value.oneCell']) (by simp only [maxLen]; omega) hbytes hold ?_
  · intro j u hu
    match j, hu with
    | 0, hu => simp at hu; subst hu; exact hc
  · intro v' w' a1 a2 _
    refine h v' w' ?_ a2
    unfold OwnI
    rw [List.map_append, List.length_append]
    exact a1
end

end Go.Proofs.YtohngjkedhpikaaGreatDoor
