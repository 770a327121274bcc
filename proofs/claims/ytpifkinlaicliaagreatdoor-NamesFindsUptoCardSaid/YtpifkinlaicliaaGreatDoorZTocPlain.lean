/-
  PLAIN LAW, over no program: contents as lists of pairs (topic, level): what Check, Find, Parent, End, Kids, Path, Shown say, and that they make a tree.
-/
import Derived.Test.YtpifkinlaicliaaGreatDoorZBase
namespace Go.Proofs.YtpifkinlaicliaaGreatDoor

def levelB (l a : Int) : Bool := decide (1 ≤ l) && decide (l ≤ 8) && decide (l ≤ a + 1)
def ahead (t : List (Int × Int)) (k : Nat) : Int := if k = 0 then 0 else p1 t (k - 1)
def seenB (t : List (Int × Int)) (k : Nat) : Bool := (List.range k).any fun i => p0 t i == p0 t k
def badAt (t : List (Int × Int)) (topics : Int) (k : Nat) : Int :=
  if p0 t k < 0 ∨ topics ≤ p0 t k then 1 else if levelB (p1 t k) (ahead t k) = false then 100 else if seenB t k = true then 101 else 0
def chkFrom (t : List (Int × Int)) (topics : Int) (k : Nat) : Int × Int :=
  if k < t.length then (if badAt t topics k = 0 then chkFrom t topics (k + 1) else ((k : Int), badAt t topics k)) else (0, 0)
termination_by t.length - k
def chk (t : List (Int × Int)) (topics : Int) : Int × Int := if 1000 < t.length then (0, 2) else chkFrom t topics 0
def goodE (t : List (Int × Int)) : Int := (chk t 1000).2
def atFrom (t : List (Int × Int)) (x : Int) (k : Nat) : Int := if k < t.length then (if p0 t k = x then (k : Int) else atFrom t x (k + 1)) else -1
termination_by t.length - k
def up (t : List (Int × Int)) (want : Int) : Nat → Int
  | 0 => -1
  | k + 1 => if p1 t k = want then (k : Int) else up t want k
def par (t : List (Int × Int)) (i : Nat) : Int := up t (p1 t i - 1) i
def endFrom (t : List (Int × Int)) (l : Int) (k : Nat) : Nat := if k < t.length ∧ l < p1 t k then endFrom t l (k + 1) else k
termination_by t.length - k
def endp (t : List (Int × Int)) (i : Nat) : Nat := endFrom t (p1 t i) (i + 1)
def kids (t : List (Int × Int)) (i : Int) : List Nat := (List.range t.length).filter fun k => par t k == i

structure Good (t : List (Int × Int)) : Prop where
  len : t.length ≤ 1000
  top : ∀ k, k < t.length → 0 ≤ p0 t k ∧ p0 t k < 1000
  lev : ∀ k, k < t.length → 1 ≤ p1 t k ∧ p1 t k ≤ 8 ∧ p1 t k ≤ ahead t k + 1
  inj : ∀ i k, i < k → k < t.length → p0 t i ≠ p0 t k

theorem atFrom_hit {t : List (Int × Int)} {x : Int} {k : Nat} (h : k < t.length) (e : (p0 t k == x) = true) : atFrom t x k = (k : Int) := by
  rw [atFrom, if_pos h, if_pos (by simpa using e)]
theorem atFrom_miss {t : List (Int × Int)} {x : Int} {k : Nat} (h : k < t.length) (e : (p0 t k == x) = false) : atFrom t x k = atFrom t x (k + 1) := by
  rw [atFrom, if_pos h, if_neg (by simpa using e)]
theorem atFrom_end {t : List (Int × Int)} {x : Int} {k : Nat} (h : ¬ k < t.length) : atFrom t x k = -1 := by
  rw [atFrom, if_neg h]
theorem atFrom_cases (t : List (Int × Int)) (x : Int) (k : Nat) : (atFrom t x k = -1 ∧ ∀ i, k ≤ i → i < t.length → p0 t i ≠ x) ∨ ∃ j : Nat, atFrom t x k = (j : Int) ∧ k ≤ j ∧ j < t.length ∧ p0 t j = x ∧ ∀ i, k ≤ i → i < j → p0 t i ≠ x := by
  by_cases h : k < t.length
  · by_cases e : p0 t k = x
    · exact .inr ⟨k, atFrom_hit h (by simpa using e), Nat.le_refl _, h, e, fun i a b => by omega⟩
    · have hm := atFrom_miss (x := x) h (by simpa using e)
      rcases atFrom_cases t x (k + 1) with ⟨h1, h2⟩ | ⟨j, h1, h2, h3, h4, h5⟩
      · refine .inl ⟨hm.trans h1, fun i a b => ?_⟩
        rcases Nat.eq_or_lt_of_le a with rfl | a
        · exact e
        · exact h2 i a b
      · refine .inr ⟨j, hm.trans h1, by omega, h3, h4, fun i a b => ?_⟩
        rcases Nat.eq_or_lt_of_le a with rfl | a
        · exact e
        · exact h5 i a b
  · exact .inl ⟨atFrom_end h, fun i a b => by omega⟩
termination_by t.length - k

theorem badAt_zero {t : List (Int × Int)} {n : Int} {k : Nat} : badAt t n k = 0 ↔ (0 ≤ p0 t k ∧ p0 t k < n) ∧ levelB (p1 t k) (ahead t k) = true ∧ seenB t k = false := by
  unfold badAt
  by_cases a : p0 t k < 0 ∨ n ≤ p0 t k
  · rw [if_pos a]; constructor
    · intro h; omega
    · rintro ⟨h, _⟩; omega
  · rw [if_neg a]
    by_cases b : levelB (p1 t k) (ahead t k) = false
    · rw [if_pos b]; simp [b]
    · rw [if_neg b]
      by_cases c : seenB t k = true
      · rw [if_pos c]; simp [c]
      · rw [if_neg c]; simp at b c; simp [b, c]; omega
theorem chkFrom_two (t : List (Int × Int)) (n : Int) (k : Nat) : (chkFrom t n k).2 = 0 ↔ ∀ i, k ≤ i → i < t.length → badAt t n i = 0 := by
  by_cases h : k < t.length
  · rw [chkFrom, if_pos h]
    by_cases e : badAt t n k = 0
    · rw [if_pos e, chkFrom_two t n (k + 1)]
      constructor
      · intro g i a b
        rcases Nat.eq_or_lt_of_le a with rfl | a
        · exact e
        · exact g i a b
      · intro g i a b; exact g i (by omega) b
    · rw [if_neg e]
      exact ⟨fun g => absurd g e, fun g => absurd (g k (Nat.le_refl _) h) e⟩
  · rw [chkFrom, if_neg h]
    exact ⟨fun _ i a b => by omega, fun _ => rfl⟩
termination_by t.length - k
theorem seenB_false {t : List (Int × Int)} {k : Nat} : seenB t k = false ↔ ∀ i, i < k → p0 t i ≠ p0 t k := by
  simp [seenB]
theorem goodE_zero (t : List (Int × Int)) : goodE t = 0 ↔ Good t := by
  unfold goodE chk
  by_cases h : 1000 < t.length
  · rw [if_pos h]
    exact ⟨fun g => absurd g (by decide), fun g => absurd g.len (by omega)⟩
  · rw [if_neg h, chkFrom_two]
    constructor
    · intro g
      have g' : ∀ i, i < t.length → _ := fun i hi => badAt_zero.1 (g i (Nat.zero_le _) hi)
      refine ⟨by omega, fun k hk => (g' k hk).1, fun k hk => ?_, fun i k hik hk => seenB_false.1 (g' k hk).2.2 i hik⟩
      have := (g' k hk).2.1
      simpa [levelB, and_assoc] using this
    · intro g i _ hi
      refine badAt_zero.2 ⟨g.top i hi, ?_, seenB_false.2 fun j hj => g.inj j i hj hi⟩
      have := g.lev i hi
      simpa [levelB, and_assoc] using this

theorem up_lt (t : List (Int × Int)) (w : Int) : ∀ k : Nat, -1 ≤ up t w k ∧ up t w k < k
  | 0 => by simp [up]
  | k + 1 => by
    have := up_lt t w k
    rw [up]; split <;> omega
theorem par_lt (t : List (Int × Int)) (i : Nat) : -1 ≤ par t i ∧ par t i < i := up_lt _ _ _
/-- the search upward finds the last one of that level -/
theorem up_iff (t : List (Int × Int)) (w : Int) (j : Nat) : ∀ k : Nat, up t w k = (j : Int) ↔ j < k ∧ p1 t j = w ∧ ∀ m, j < m → m < k → p1 t m ≠ w
  | 0 => by simp [up]
  | k + 1 => by
    rw [up]
    by_cases e : p1 t k = w
    · rw [if_pos e]
      constructor
      · intro h
        obtain rfl : k = j := by omega
        exact ⟨by omega, e, fun m a b => by omega⟩
      · rintro ⟨h1, h2, h3⟩
        by_cases hj : j = k
        · rw [hj]
        · exact absurd e (h3 k (by omega) (by omega))
    · rw [if_neg e, up_iff t w j k]
      constructor
      · rintro ⟨h1, h2, h3⟩
        refine ⟨by omega, h2, fun m a b => ?_⟩
        by_cases hm : m = k
        · rw [hm]; exact e
        · exact h3 m a (by omega)
      · rintro ⟨h1, h2, h3⟩
        have : j ≠ k := fun h => e (h ▸ h2)
        exact ⟨by omega, h2, fun m a b => h3 m a (by omega)⟩
theorem up_none (t : List (Int × Int)) (w : Int) : ∀ k : Nat, up t w k = -1 ↔ ∀ m, m < k → p1 t m ≠ w
  | 0 => by simp [up]
  | k + 1 => by
    rw [up]
    by_cases e : p1 t k = w
    · rw [if_pos e]
      exact ⟨fun h => by omega, fun h => absurd e (h k (by omega))⟩
    · rw [if_neg e, up_none t w k]
      constructor
      · intro h m hm
        by_cases hk : m = k
        · rw [hk]; exact e
        · exact h m (by omega)
      · intro h m hm; exact h m (by omega)

theorem endFrom_ge (t : List (Int × Int)) (l : Int) (k : Nat) : k ≤ endFrom t l k := by
  rw [endFrom]; split
  · have := endFrom_ge t l (k + 1); omega
  · omega
termination_by t.length - k
theorem endFrom_le (t : List (Int × Int)) (l : Int) (k : Nat) (h : k ≤ t.length) : endFrom t l k ≤ t.length := by
  rw [endFrom]; split
  · exact endFrom_le t l (k + 1) (by omega)
  · exact h
termination_by t.length - k
theorem endFrom_in (t : List (Int × Int)) (l : Int) (k m : Nat) (h1 : k ≤ m) (h2 : m < endFrom t l k) : l < p1 t m := by
  rw [endFrom] at h2
  split at h2
  · by_cases e : m = k
    · rw [e]; rename_i h; exact h.2
    · exact endFrom_in t l (k + 1) m (by omega) h2
  · omega
termination_by t.length - k
theorem endFrom_at (t : List (Int × Int)) (l : Int) (k : Nat) (h : endFrom t l k < t.length) : p1 t (endFrom t l k) ≤ l := by
  rw [endFrom] at h ⊢
  split
  · rename_i c
    rw [if_pos c] at h
    exact endFrom_at t l (k + 1) h
  · rename_i c
    rw [if_neg c] at h
    omega
termination_by t.length - k
theorem endp_range (t : List (Int × Int)) (i : Nat) (h : i < t.length) : i < endp t i ∧ endp t i ≤ t.length :=
  ⟨Nat.lt_of_lt_of_le (Nat.lt_succ_self i) (endFrom_ge _ _ _), endFrom_le _ _ _ h⟩
/-- spans lie within one another or apart -/
theorem endp_nest (t : List (Int × Int)) (i k : Nat) (h1 : i < k) (h2 : k < endp t i) (hn : i < t.length) : endp t k ≤ endp t i := by
  have hk := endFrom_in t (p1 t i) (i + 1) k h1 h2
  have he := endp_range t i hn
  by_cases hlt : endp t k ≤ endp t i
  · exact hlt
  · have h3 : endp t i < endFrom t (p1 t k) (k + 1) := by unfold endp at hlt ⊢; omega
    have h4 := endFrom_in t (p1 t k) (k + 1) (endp t i) (by omega) h3
    have h5 : endp t i < t.length := by
      have := endFrom_le t (p1 t k) (k + 1) (by omega)
      omega
    have h6 := endFrom_at t (p1 t i) (i + 1) h5
    unfold endp at h4
    omega

/-- in good contents: from a kid back to its parent all stand deeper -/
theorem Good.down {t : List (Int × Int)} (g : Good t) (l : Int) (k : Nat) (hk : k < t.length) : ∀ d m : Nat, m + d = k → l ≤ p1 t k → (∀ x, m < x → x ≤ k → p1 t x ≠ l) → (0 < d → l < p1 t k) → (0 < d → l ≤ p1 t m)
  | 0, _, _, _, _, _ => fun h => by omega
  | d + 1, m, hm, h1, h2, h3 => fun _ => by
    have hs : l < p1 t (m + 1) := by
      cases d with
      | zero => rw [show m + 1 = k from by omega]; exact h3 (by omega)
      | succ d =>
        have := Good.down g l k hk (d + 1) (m + 1) (by omega) h1 (fun x a b => h2 x (by omega) b) (fun _ => h3 (by omega)) (by omega)
        have hne := h2 (m + 1) (by omega) (by omega)
        omega
    have := (g.lev (m + 1) (by omega)).2.2
    simp [ahead] at this
    omega
/-- a parent is the last entry ahead with a level one less: just if the kid stands in its span, one level down -/
theorem Good.par_iff {t : List (Int × Int)} (g : Good t) (i k : Nat) (hk : k < t.length) : par t k = (i : Int) ↔ i < k ∧ k < endp t i ∧ p1 t k = p1 t i + 1 := by
  unfold par
  rw [up_iff]
  constructor
  · rintro ⟨h1, h2, h3⟩
    refine ⟨h1, ?_, by omega⟩
    have all : ∀ m, i < m → m ≤ k → p1 t i < p1 t m := by
      intro m a b
      by_cases e : m = k
      · rw [e]; omega
      · have := Good.down g (p1 t i) k hk (k - m) m (by omega) (by omega) (fun x a b => ?_) (fun _ => by omega) (by omega)
        · have := h3 m a (by omega); omega
        · by_cases ex : x = k
          · rw [ex]; omega
          · have := h3 x (by omega) (by omega); omega
    by_cases hlt : k < endp t i
    · exact hlt
    · have he := endp_range t i (by omega)
      have h6 := endFrom_at t (p1 t i) (i + 1) (by unfold endp at hlt; omega)
      have h7 := all (endFrom t (p1 t i) (i + 1)) (by unfold endp at he; omega) (by unfold endp at hlt; omega)
      omega
  · rintro ⟨h1, h2, h3⟩
    refine ⟨h1, by omega, fun m a b => ?_⟩
    have := endFrom_in t (p1 t i) (i + 1) m a (by unfold endp at h2; omega)
    omega
theorem Good.par_none {t : List (Int × Int)} (g : Good t) (k : Nat) (hk : k < t.length) : par t k = -1 ↔ p1 t k = 1 := by
  unfold par
  rw [up_none]
  constructor
  · intro h
    by_cases e : p1 t k = 1
    · exact e
    · exfalso
      have hl := g.lev k hk
      have h0 := g.lev 0 (by omega)
      simp [ahead] at h0
      by_cases hk0 : k = 0
      · subst hk0; omega
      · have := Good.down g (p1 t k - 1) k hk k 0 (by omega) (by omega) (fun x a b => ?_) (fun _ => by omega) (by omega)
        · have := h 0 (by omega); omega
        · by_cases ex : x = k
          · rw [ex]; omega
          · exact h x (by omega)
  · intro h m hm
    have := (g.lev m (by omega)).1
    omega
/-- the kids, as the program gathers them -/
theorem Good.kids_root {t : List (Int × Int)} (g : Good t) : kids t (-1) = (List.range t.length).filter fun k => p1 t k == 1 := by
  unfold kids
  refine List.filter_congr fun k hk => ?_
  have hk := List.mem_range.1 hk
  rw [Bool.eq_iff_iff, beq_iff_eq, beq_iff_eq]
  exact g.par_none k hk
theorem Good.kids_in {t : List (Int × Int)} (g : Good t) (i : Nat) : kids t (i : Int) = (List.range t.length).filter fun k => decide (i < k ∧ k < endp t i) && (p1 t k == p1 t i + 1) := by
  unfold kids
  refine List.filter_congr fun k hk => ?_
  have hk := List.mem_range.1 hk
  rw [Bool.eq_iff_iff, beq_iff_eq, Bool.and_eq_true, decide_eq_true_iff, beq_iff_eq, g.par_iff i k hk, and_assoc]
theorem mem_kids {t : List (Int × Int)} {i : Int} {k : Nat} : k ∈ kids t i ↔ k < t.length ∧ par t k = i := by
  simp [kids]

/-! ### steps of the searches, as the walks meet them -/
theorem chkFrom_stop {t : List (Int × Int)} {n : Int} {k : Nat} {e : Int} (h : k < t.length) (hb : badAt t n k = e) (he : e ≠ 0) : chkFrom t n k = ((k : Int), e) := by
  rw [chkFrom, if_pos h, if_neg (by rw [hb]; exact he), hb]
theorem chkFrom_go {t : List (Int × Int)} {n : Int} {k : Nat} (h : k < t.length) (hb : badAt t n k = 0) : chkFrom t n k = chkFrom t n (k + 1) := by
  rw [chkFrom, if_pos h, if_pos hb]
theorem chkFrom_end {t : List (Int × Int)} {n : Int} {k : Nat} (h : ¬ k < t.length) : chkFrom t n k = (0, 0) := by
  rw [chkFrom, if_neg h]
theorem badAt_range {t : List (Int × Int)} {n : Int} {k : Nat} (h : p0 t k < 0 ∨ n ≤ p0 t k) : badAt t n k = 1 := by rw [badAt, if_pos h]
theorem badAt_level {t : List (Int × Int)} {n : Int} {k : Nat} (h : 0 ≤ p0 t k) (h' : p0 t k < n) (g : levelB (p1 t k) (ahead t k) = false) : badAt t n k = 100 := by
  rw [badAt, if_neg (by omega), if_pos g]
theorem badAt_twice {t : List (Int × Int)} {n : Int} {k : Nat} (h : 0 ≤ p0 t k) (h' : p0 t k < n) (g : levelB (p1 t k) (ahead t k) = true) (s : seenB t k = true) : badAt t n k = 101 := by
  rw [badAt, if_neg (by omega), if_neg (by simp [g]), if_pos s]
theorem badAt_fine {t : List (Int × Int)} {n : Int} {k : Nat} (h : 0 ≤ p0 t k) (h' : p0 t k < n) (g : levelB (p1 t k) (ahead t k) = true) (s : seenB t k = false) : badAt t n k = 0 := by
  rw [badAt, if_neg (by omega), if_neg (by simp [g]), if_neg (by simp [s])]
/-- how often a topic stands among the first k -/
def cntP (t : List (Int × Int)) (k : Nat) (x : Int) : Int := ((List.range k).filter fun i => p0 t i == x).length
theorem cntP_zero (t : List (Int × Int)) : cntP t 0 = fun _ => 0 := by funext x; rfl
theorem cntP_nonneg (t : List (Int × Int)) (k : Nat) (x : Int) : 0 ≤ cntP t k x ∧ cntP t k x ≤ k := by
  unfold cntP
  have := List.length_filter_le (fun i => p0 t i == x) (List.range k)
  simp only [List.length_range] at this
  omega
theorem cntP_succ (t : List (Int × Int)) (k : Nat) : cntP t (k + 1) = fun q => if q = p0 t k then cntP t k (p0 t k) + 1 else cntP t k q := by
  funext q
  unfold cntP
  rw [List.range_succ, List.filter_append]
  by_cases e : q = p0 t k
  · rw [if_pos e, e]; simp
  · rw [if_neg e]; simp [Ne.symm e]
theorem seenB_cnt (t : List (Int × Int)) (k : Nat) : seenB t k = decide (0 < cntP t k (p0 t k)) := by
  rw [Bool.eq_iff_iff, decide_eq_true_iff]
  unfold seenB cntP
  simp only [List.any_eq_true, List.mem_range, beq_iff_eq]
  constructor
  · rintro ⟨i, hi, e⟩
    have : i ∈ (List.range k).filter fun i => p0 t i == p0 t k := by simp [hi, e]
    have := List.length_pos_of_mem this
    omega
  · intro h
    have h : 0 < ((List.range k).filter fun i => p0 t i == p0 t k).length := by omega
    obtain ⟨i, hi⟩ := List.exists_mem_of_length_pos h
    simp at hi
    exact ⟨i, hi.1, hi.2⟩
theorem seenB_yes {t : List (Int × Int)} {k : Nat} (h : 0 < cntP t k (p0 t k)) : seenB t k = true := by rw [seenB_cnt]; simpa using h
theorem seenB_no {t : List (Int × Int)} {k : Nat} (h : cntP t k (p0 t k) ≤ 0) : seenB t k = false := by rw [seenB_cnt]; simpa using h
theorem levelB_range {l a : Int} (h : levelB l a = true) : 1 ≤ l ∧ l ≤ 8 := by simp [levelB] at h; omega
theorem ahead_succ (t : List (Int × Int)) (k : Nat) : ahead t (k + 1) = p1 t k := by simp [ahead]
def hasB (l : List Int) (x : Int) : Bool := l.contains x
def eqB (a b : List Int) : Bool := a == b
theorem hasB_yes {l : List Int} {x : Int} {k : Nat} (h : k < l.length) (e : (ix l k == x) = true) : hasB l x = true := by
  unfold hasB
  simp only [ix, List.getD, List.getElem?_eq_getElem h, Option.getD_some, beq_iff_eq] at e
  rw [List.contains_iff_mem, ← e]
  exact List.getElem_mem h
theorem hasB_no {l : List Int} {x : Int} (h : ∀ i, i < l.length → ix l i ≠ x) : hasB l x = false := by
  unfold hasB
  rw [Bool.eq_false_iff]
  intro hc
  obtain ⟨i, hi, e⟩ := List.mem_iff_getElem.1 (List.contains_iff_mem.1 hc)
  refine h i hi ?_
  simp [ix, List.getD, List.getElem?_eq_getElem hi, e]
theorem ints_same {a b : List Int} (h : a.length = b.length) (e : ∀ i, i < a.length → ix a i = ix b i) : a = b := by
  refine List.ext_getElem h fun i h1 h2 => ?_
  have := e i h1
  simpa [ix, List.getD, List.getElem?_eq_getElem h1, List.getElem?_eq_getElem h2] using this
theorem eqB_self (a : List Int) : eqB a a = true := by simp [eqB]
theorem ints_apart {a b : List Int} {k : Nat} (h : ix a k ≠ ix b k) : eqB a b = false := by
  unfold eqB
  rw [beq_eq_false_iff_ne]; rintro rfl; exact h rfl
theorem ints_len {a b : List Int} (h : a.length ≠ b.length) : eqB a b = false := by
  unfold eqB
  rw [beq_eq_false_iff_ne]; rintro rfl; exact h rfl

/-! ### ways by topics -/
def atE (t : List (Int × Int)) (i : Int) : Int := if goodE t = 0 then (if i < 0 ∨ (t.length : Int) ≤ i then 1 else 0) else goodE t
theorem atE_bad {t : List (Int × Int)} {i : Int} (h : goodE t ≠ 0) : atE t i = goodE t := by rw [atE, if_neg h]
theorem atE_out {t : List (Int × Int)} {i : Int} (h : goodE t = 0) (h' : i < 0 ∨ (t.length : Int) ≤ i) : atE t i = 1 := by rw [atE, if_pos h, if_pos h']
theorem atE_in {t : List (Int × Int)} {i : Int} (h : goodE t = 0) (h' : 0 ≤ i) (h'' : i < t.length) : atE t i = 0 := by rw [atE, if_pos h, if_neg (by omega)]
theorem atE_zero {t : List (Int × Int)} {i : Int} (h : atE t i = 0) : goodE t = 0 ∧ 0 ≤ i ∧ i < t.length := by
  unfold atE at h
  by_cases e : goodE t = 0
  · rw [if_pos e] at h
    by_cases e' : i < 0 ∨ (t.length : Int) ≤ i
    · rw [if_pos e'] at h; exact absurd h (by decide)
    · exact ⟨e, by omega, by omega⟩
  · rw [if_neg e] at h; exact absurd h e
def stepT (t : List (Int × Int)) (x b : Int) : Int × Int :=
  if goodE t = 0 then (if atFrom t x 0 < 0 ∨ atFrom t x 0 + b < 0 ∨ (t.length : Int) ≤ atFrom t x 0 + b then (0, 3) else (p0 t (atFrom t x 0 + b).toNat, 0)) else (0, goodE t)
/-- the topics from an entry up to its root -/
def upL (t : List (Int × Int)) (i : Nat) : List Int := p0 t i :: (if par t i < 0 then [] else upL t (par t i).toNat)
termination_by i
decreasing_by have := par_lt t i; omega
theorem upL_root {t : List (Int × Int)} {i : Nat} (h : par t i < 0) : upL t i = [p0 t i] := by rw [upL, if_pos h]
theorem upL_deep {t : List (Int × Int)} {i j : Nat} (h : par t i = (j : Int)) : upL t i = p0 t i :: upL t j := by rw [upL, if_neg (by omega), h, Int.toNat_natCast]
/-- .. of the way up that is still to come at place k (-1: none) -/
def upR (t : List (Int × Int)) (k : Int) : List Int := if k < 0 then [] else upL t k.toNat
theorem upR_step (t : List (Int × Int)) (j : Nat) : upR t (j : Int) = p0 t j :: upR t (par t j) := by
  unfold upR
  rw [if_neg (by omega), Int.toNat_natCast, upL]
theorem upL_length (t : List (Int × Int)) (i : Nat) : (upL t i).length ≤ i + 1 := by
  rw [upL]
  by_cases h : par t i < 0
  · rw [if_pos h]; simp
  · rw [if_neg h]
    have h1 := par_lt t i
    have := upL_length t (par t i).toNat
    simp only [List.length_cons]; omega
termination_by i
decreasing_by have := par_lt t i; omega
def pathT (t : List (Int × Int)) (x : Int) : List Int × Int :=
  if goodE t = 0 then (if atFrom t x 0 < 0 then ([], 3) else ((upL t (atFrom t x 0).toNat).reverse, 0)) else ([], goodE t)
def upT (t : List (Int × Int)) (x : Int) : Int × Int :=
  if (pathT t x).2 = 0 then (if ((pathT t x).1.length : Int) < 2 then (0, 3) else (ix (pathT t x).1 ((pathT t x).1.length - 2), 0)) else (0, (pathT t x).2)
/-! ### a list half reversed -/
def HalfRev (l m : List Int) (k : Nat) : Prop := m.length = l.length ∧ ∀ i, i < l.length → ix m i = if i < k ∨ l.length < i + 1 + k then ix l (l.length - 1 - i) else ix l i
theorem HalfRev.start (l : List Int) : HalfRev l l 0 := ⟨rfl, fun i hi => by rw [if_neg (by omega)]⟩
theorem ix_set {l : List Int} {i j : Nat} {x : Int} (hi : i < l.length) : ix (l.set i x) j = if j = i then x else ix l j := by
  unfold ix List.getD
  by_cases e : j = i
  · rw [if_pos e, e, List.getElem?_set_self hi]; rfl
  · rw [if_neg e, List.getElem?_set_ne (Ne.symm e)]
theorem HalfRev.step {l m : List Int} {k : Nat} (h : HalfRev l m k) (hk : k + k + 1 < l.length) : HalfRev l ((m.set k (ix m (l.length - 1 - k))).set (l.length - 1 - k) (ix m k)) (k + 1) := by
  refine ⟨by simp [h.1], fun i hi => ?_⟩
  have h1 := h.2 k (by omega)
  have h2 := h.2 (l.length - 1 - k) (by omega)
  rw [if_neg (by omega)] at h1 h2
  rw [ix_set (by simp [h.1]; omega)]
  by_cases e : i = l.length - 1 - k
  · rw [if_pos e, if_pos (by omega), h1, e]; congr 1; omega
  · rw [if_neg e, ix_set (by rw [h.1]; omega)]
    by_cases e2 : i = k
    · rw [if_pos e2, if_pos (by omega), h2, e2]
    · rw [if_neg e2, h.2 i hi]
      by_cases e3 : i < k ∨ l.length < i + 1 + k
      · rw [if_pos e3, if_pos (by omega)]
      · rw [if_neg e3, if_neg (by omega)]
theorem HalfRev.done {l m : List Int} {k : Nat} (h : HalfRev l m k) (hk : l.length ≤ k + k + 1) : m = l.reverse := by
  refine ints_same (by simp [h.1]) fun i hi => ?_
  rw [h.1] at hi
  have hr : ix l.reverse i = ix l (l.length - 1 - i) := by
    unfold ix List.getD
    rw [List.getElem?_reverse hi]
  rw [h.2 i hi, hr]
  by_cases e : i < k ∨ l.length < i + 1 + k
  · rw [if_pos e]
  · rw [if_neg e]; congr 1; omega

theorem endFrom_go {t : List (Int × Int)} {l : Int} {k : Nat} (h : k < t.length) (h' : l < p1 t k) : endFrom t l k = endFrom t l (k + 1) := by rw [endFrom, if_pos ⟨h, h'⟩]
theorem endFrom_out {t : List (Int × Int)} {l : Int} {k : Nat} (h : ¬ (k < t.length ∧ l < p1 t k)) : endFrom t l k = k := by rw [endFrom, if_neg h]
/-- what stands below an entry -/
def spanL (t : List (Int × Int)) (i : Nat) : List Nat := List.range' (i + 1) (endp t i - (i + 1))
theorem span_snoc (a b : Nat) (h : a ≤ b) : List.range' a (b + 1 - a) = List.range' a (b - a) ++ [b] := by
  rw [show b + 1 - a = (b - a) + 1 from by omega, List.range'_concat]
  simp; omega
/-- the kids among what stands below -/
def kidsBelow (t : List (Int × Int)) (i : Nat) (l : List Nat) : List Nat := l.filter fun k => p1 t k == p1 t i + 1
theorem kidsBelow_snoc (t : List (Int × Int)) (i : Nat) (l : List Nat) (k : Nat) : kidsBelow t i (l ++ [k]) = if (p1 t k == p1 t i + 1) = true then kidsBelow t i l ++ [k] else kidsBelow t i l := by
  unfold kidsBelow
  rw [List.filter_append]
  by_cases e : (p1 t k == p1 t i + 1) = true
  · rw [if_pos e]; simp [e]
  · rw [if_neg e]; simp [e]
theorem Good.kids_below {t : List (Int × Int)} (g : Good t) (i : Nat) (hi : i < t.length) : kidsBelow t i (spanL t i) = kids t (i : Int) := by
  rw [g.kids_in i]
  unfold kidsBelow spanL
  have he := endp_range t i hi
  have hsplit : List.range t.length = List.range' 0 (i + 1) ++ (List.range' (i + 1) (endp t i - (i + 1)) ++ List.range' (endp t i) (t.length - endp t i)) := by
    have h1 : List.range' 0 (i + 1) ++ List.range' (i + 1) (t.length - (i + 1)) = List.range' 0 t.length := by
      have := @List.range'_append 0 (i + 1) (t.length - (i + 1)) 1
      simpa [show i + 1 + (t.length - (i + 1)) = t.length from by omega] using this
    have h2 : List.range' (i + 1) (endp t i - (i + 1)) ++ List.range' (endp t i) (t.length - endp t i) = List.range' (i + 1) (t.length - (i + 1)) := by
      have := @List.range'_append (i + 1) (endp t i - (i + 1)) (t.length - endp t i) 1
      simpa [show i + 1 + (endp t i - (i + 1)) = endp t i from by omega, show endp t i - (i + 1) + (t.length - endp t i) = t.length - (i + 1) from by omega] using this
    rw [h2, h1, List.range_eq_range']
  rw [hsplit, List.filter_append, List.filter_append]
  have ha : (List.range' 0 (i + 1)).filter (fun k => decide (i < k ∧ k < endp t i) && (p1 t k == p1 t i + 1)) = [] := by
    rw [List.filter_eq_nil_iff]
    intro k hk
    have := List.mem_range'_1.1 hk
    simp; omega
  have hb : (List.range' (endp t i) (t.length - endp t i)).filter (fun k => decide (i < k ∧ k < endp t i) && (p1 t k == p1 t i + 1)) = [] := by
    rw [List.filter_eq_nil_iff]
    intro k hk
    have := List.mem_range'_1.1 hk
    simp; omega
  rw [ha, hb, List.nil_append, List.append_nil]
  refine List.filter_congr fun k hk => ?_
  have := List.mem_range'_1.1 hk
  have hd : decide (i < k ∧ k < endp t i) = true := by simp; omega
  rw [hd, Bool.true_and]

/-- behind the last that came (behind i, if none came) -/
def endOf (i : Nat) (l : List Nat) : Int := match l.getLast? with | some x => (x : Int) + 1 | none => (i : Int) + 1
theorem endOf_snoc (i : Nat) (l : List Nat) (x : Nat) : endOf i (l ++ [x]) = (x : Int) + 1 := by simp [endOf]
theorem endOf_span (t : List (Int × Int)) (i : Nat) (hi : i < t.length) : endOf i (spanL t i) = (endp t i : Int) := by
  have he := endp_range t i hi
  unfold spanL
  by_cases h : endp t i = i + 1
  · rw [h]; simp [endOf]
  · rw [show endp t i - (i + 1) = (endp t i - 1) + 1 - (i + 1) from by omega, span_snoc _ _ (by omega), endOf_snoc]; omega

theorem p0_take {t : List (Int × Int)} {k i : Nat} (h : i < k) : p0 (t.take k) i = p0 t i := by simp [p0, List.getD, h]
theorem p1_take {t : List (Int × Int)} {k i : Nat} (h : i < k) : p1 (t.take k) i = p1 t i := by simp [p1, List.getD, h]
theorem Prs.take {w : World} {a : Option Addr} {n cap : Nat} {t : List (Int × Int)} (h : Prs w (.slice a n cap) t) {k : Nat} (hk : k ≤ t.length) : Prs w (.slice a k cap) (t.take k) := by
  obtain ⟨a', cap', b, off, e, h1, h2, ha, h3, h4⟩ := h
  simp at e
  obtain ⟨rfl, rfl, rfl⟩ := e
  have hl : (t.take k).length = k := by simp; omega
  refine ⟨a, cap, b, off, by rw [hl], by omega, h2, fun hp => ha (by omega), fun i hi W hW => ?_, fun i hi W hW => ?_⟩
  · rw [p0_take (by omega)]; exact h3 i (by omega) W hW
  · rw [p1_take (by omega)]; exact h4 i (by omega) W hW
theorem ahead_take {t : List (Int × Int)} {k : Nat} (h : k ≤ t.length) : ahead (t.take k) (t.take k).length = ahead t k := by
  have hl : (t.take k).length = k := by simp; omega
  rw [hl]
  unfold ahead
  by_cases e : k = 0
  · rw [if_pos e, if_pos e]
  · rw [if_neg e, if_neg e, p1_take (by omega)]
theorem seenB_take {t : List (Int × Int)} {k : Nat} (h : k ≤ t.length) : seenB t k = decide (0 ≤ atFrom (t.take k) (p0 t k) 0) := by
  have hl : (t.take k).length = k := by simp; omega
  rw [Bool.eq_iff_iff, decide_eq_true_iff]
  rcases atFrom_cases (t.take k) (p0 t k) 0 with ⟨h1, h2⟩ | ⟨j, h1, _, h3, h4, _⟩
  · rw [h1]
    constructor
    · intro hs
      simp only [seenB, List.any_eq_true, List.mem_range, beq_iff_eq] at hs
      obtain ⟨i, hi, e⟩ := hs
      exact absurd (by rw [p0_take hi]; exact e) (h2 i (Nat.zero_le _) (by omega))
    · intro h; omega
  · rw [h1]
    constructor
    · intro _; omega
    · intro _
      simp only [seenB, List.any_eq_true, List.mem_range, beq_iff_eq]
      exact ⟨j, by omega, by rw [← h4, p0_take (by omega)]⟩

end Go.Proofs.YtpifkinlaicliaaGreatDoor
