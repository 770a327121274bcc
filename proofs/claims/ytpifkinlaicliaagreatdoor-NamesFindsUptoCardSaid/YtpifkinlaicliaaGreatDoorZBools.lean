/-
  PLAIN LAW, more: tables of numbers; what TocTree counts.
-/
import Derived.Test.YtpifkinlaicliaaGreatDoorZTocPlain
import Derived.Test.YtpifkinlaicliaaGreatDoorZOwn
namespace Go.Proofs.YtpifkinlaicliaaGreatDoor

/-! ### tables of numbers -/
def tab (n : Nat) (f : Nat → Int) : List Int := (List.range n).map f
theorem tab_length (n : Nat) (f : Nat → Int) : (tab n f).length = n := by simp [tab]
theorem ix_tab {n k : Nat} {f : Nat → Int} (h : k < n) : ix (tab n f) k = f k := by simp [ix, tab, List.getD, h]
theorem tab_congr {n : Nat} {f g : Nat → Int} (h : ∀ k, k < n → f k = g k) : tab n f = tab n g := List.map_congr_left fun k hk => h k (List.mem_range.1 hk)
theorem tab_set {n c : Nat} {f : Nat → Int} {x : Int} : (tab n f).set c x = tab n fun k => if k = c then x else f k := by
  refine List.ext_getElem (by simp [tab]) fun i h1 h2 => ?_
  simp only [tab, List.getElem_set, List.getElem_map, List.getElem_range]
  by_cases e : i = c
  · subst e; simp
  · rw [if_neg e, if_neg (Ne.symm e)]
theorem tab_zero (n : Nat) : List.replicate n (0 : Int) = tab n fun _ => 0 := by
  refine List.ext_getElem (by simp [tab]) fun i h1 h2 => ?_
  simp [tab]
/-- how often each entry has been met as a kid: all parents below z, and of z's kids the first m -/
def timesF (t : List (Int × Int)) (z : Int) (m : Nat) (k : Nat) : Int := if par t k < z ∨ (par t k = z ∧ k ∈ (kids t z).take m) then 1 else 0
def endsF (t : List (Int × Int)) (z : Int) (k : Nat) : Int := if (k : Int) < z then endp t k else 0
theorem kids_nodup (t : List (Int × Int)) (z : Int) : (kids t z).Nodup := List.Pairwise.filter _ List.nodup_range
theorem kids_get {t : List (Int × Int)} {z : Int} {m : Nat} (h : m < (kids t z).length) : (kids t z)[m] < t.length ∧ par t (kids t z)[m] = z := mem_kids.1 (List.getElem_mem h)
theorem timesF_next {t : List (Int × Int)} {z : Int} {m : Nat} (h : m < (kids t z).length) (k : Nat) : timesF t z (m + 1) k = if k = (kids t z)[m] then 1 else timesF t z m k := by
  have hg := kids_get h
  have hm : k ∈ (kids t z).take (m + 1) ↔ k ∈ (kids t z).take m ∨ k = (kids t z)[m] := by
    rw [List.take_succ_eq_append_getElem h, List.mem_append, List.mem_singleton]
  unfold timesF
  simp only [hm]
  by_cases e : k = (kids t z)[m]
  · rw [if_pos e, if_pos]
    exact .inr ⟨e ▸ hg.2, .inr e⟩
  · rw [if_neg e]
    simp only [e, or_false]
theorem timesF_fresh {t : List (Int × Int)} {z : Int} {m : Nat} (h : m < (kids t z).length) : timesF t z m (kids t z)[m] = 0 := by
  have hg := kids_get h
  unfold timesF
  rw [if_neg]
  rintro (h1 | ⟨_, h2⟩)
  · omega
  · obtain ⟨i, hi, e⟩ := List.mem_take_iff_getElem.1 h2
    have := (List.getElem_inj (kids_nodup t z)).1 e
    omega
theorem timesF_end {t : List (Int × Int)} {z : Int} {k : Nat} (h : k < t.length) : timesF t z (kids t z).length k = timesF t (z + 1) 0 k := by
  unfold timesF
  rw [List.take_length, List.take_zero]
  have : (par t k < z ∨ par t k = z ∧ k ∈ kids t z) ↔ (par t k < z + 1 ∨ par t k = z + 1 ∧ k ∈ ([] : List Nat)) := by
    constructor
    · rintro (h1 | ⟨h1, _⟩) <;> exact .inl (by omega)
    · rintro (h1 | ⟨_, h2⟩)
      · by_cases e' : par t k < z
        · exact .inl e'
        · exact .inr ⟨by omega, mem_kids.2 ⟨h, by omega⟩⟩
      · cases h2
  simp only [this]
theorem timesF_start (t : List (Int × Int)) (k : Nat) : timesF t (-1) 0 k = 0 := by
  unfold timesF
  have := par_lt t k
  rw [if_neg]
  rintro (h1 | ⟨_, h2⟩)
  · omega
  · simp at h2
theorem timesF_all {t : List (Int × Int)} {k : Nat} (h : k < t.length) : timesF t t.length 0 k = 1 := by
  unfold timesF
  have := par_lt t k
  rw [if_pos (.inl (by omega))]
theorem endsF_start (t : List (Int × Int)) (k : Nat) : endsF t (-1) k = 0 := by unfold endsF; rw [if_neg (by omega)]
theorem endsF_skip (t : List (Int × Int)) (k : Nat) : endsF t (-1 + 1) k = 0 := by unfold endsF; rw [if_neg (by omega)]
theorem endsF_next (t : List (Int × Int)) (i k : Nat) : endsF t ((i : Int) + 1) k = if k = i then (endp t i : Int) else endsF t i k := by
  unfold endsF
  by_cases e : k = i
  · rw [if_pos e, e, if_pos (by omega)]
  · rw [if_neg e]
    by_cases e' : (k : Int) < i
    · rw [if_pos e', if_pos (by omega)]
    · rw [if_neg e', if_neg (by omega)]
theorem endsF_all {t : List (Int × Int)} {k : Nat} (h : k < t.length) : endsF t t.length k = endp t k := by unfold endsF; rw [if_pos (by omega)]
end Go.Proofs.YtpifkinlaicliaaGreatDoor
/-
  PLAIN LAW, more: there and back, in good contents.
-/

namespace Go.Proofs.YtpifkinlaicliaaGreatDoor

theorem Good.at_ {t : List (Int × Int)} (g : Good t) {i : Nat} (hi : i < t.length) : atFrom t (p0 t i) 0 = i := by
  rcases atFrom_cases t (p0 t i) 0 with ⟨_, h⟩ | ⟨j, h1, _, h3, h4, _⟩
  · exact absurd rfl (h i (Nat.zero_le _) hi)
  · rw [h1]
    congr 1
    rcases Nat.lt_trichotomy i j with h | h | h
    · exact absurd h4.symm (g.inj i j h h3)
    · exact h.symm
    · exact absurd h4 (g.inj j i h hi)
theorem Good.next_in {t : List (Int × Int)} (g : Good t) {i : Nat} (hi : i + 1 < t.length) : stepT t (p0 t i) 1 = (p0 t (i + 1), 0) := by
  rw [stepT, if_pos ((goodE_zero t).2 g), g.at_ (by omega), if_neg (by omega)]
  congr 2
theorem Good.next_out {t : List (Int × Int)} (g : Good t) {i : Nat} (hi : i < t.length) (hi' : ¬ i + 1 < t.length) : stepT t (p0 t i) 1 = (0, 3) := by
  rw [stepT, if_pos ((goodE_zero t).2 g), g.at_ hi, if_pos (by omega)]
theorem Good.prev_in {t : List (Int × Int)} (g : Good t) {i : Nat} (hi : i + 1 < t.length) : stepT t (p0 t (i + 1)) (-1) = (p0 t i, 0) := by
  rw [stepT, if_pos ((goodE_zero t).2 g), g.at_ hi, if_neg (by omega)]
  congr 2
  omega
theorem Good.path_of {t : List (Int × Int)} (g : Good t) {i : Nat} (hi : i < t.length) : pathT t (p0 t i) = ((upL t i).reverse, 0) := by
  rw [pathT, if_pos ((goodE_zero t).2 g), g.at_ hi, if_neg (by omega), Int.toNat_natCast]
theorem par_cases (t : List (Int × Int)) (i : Nat) : par t i = -1 ∨ ∃ j : Nat, par t i = (j : Int) ∧ j < i := by
  have h := par_lt t i
  by_cases hn : par t i < 0
  · exact .inl (by omega)
  · obtain ⟨j, hj⟩ := Int.eq_ofNat_of_zero_le (show 0 ≤ par t i by omega)
    exact .inr ⟨j, hj, by omega⟩
theorem Good.upL_len {t : List (Int × Int)} (g : Good t) (i : Nat) (hi : i < t.length) : ((upL t i).length : Int) = p1 t i := by
  rcases par_cases t i with h | ⟨j, h, hj⟩
  · rw [upL_root (by omega), (g.par_none i hi).1 h]; rfl
  · rw [upL_deep h]
    have := Good.upL_len g j (by omega)
    have h2 := ((g.par_iff j i hi).1 h).2.2
    simp only [List.length_cons]
    omega
termination_by i
theorem upL_head (t : List (Int × Int)) (i : Nat) : ix (upL t i) 0 = p0 t i := by rw [upL]; rfl
theorem upL_pos (t : List (Int × Int)) (i : Nat) : 0 < (upL t i).length := by rw [upL]; simp
/-- the d-th of the way up is an entry of its own, and the way goes on from it -/
theorem upL_drop (t : List (Int × Int)) (i : Nat) (hi : i < t.length) (d : Nat) (hd : d < (upL t i).length) : ∃ a, a < t.length ∧ (upL t i).drop d = upL t a := by
  cases d with
  | zero => exact ⟨i, hi, by simp⟩
  | succ d =>
    rcases par_cases t i with h | ⟨j, h, hj⟩
    · rw [upL_root (by omega)] at hd; simp at hd
    · rw [upL_deep h] at hd ⊢
      obtain ⟨a, ha, e⟩ := upL_drop t j (by omega) d (by simpa using hd)
      exact ⟨a, ha, by simpa using e⟩
termination_by i
theorem ix_reverse {l : List Int} {k : Nat} (h : k < l.length) : ix l.reverse k = ix l (l.length - 1 - k) := by
  unfold ix List.getD
  rw [List.getElem?_reverse h]
theorem ix_drop (l : List Int) (d k : Nat) : ix (l.drop d) k = ix l (d + k) := by
  unfold ix List.getD
  rw [List.getElem?_drop]
theorem Good.up_path {t : List (Int × Int)} (g : Good t) {i : Nat} (hi : i < t.length) {k : Nat} (hk : k < (upL t i).length) :
    upT t (ix (upL t i).reverse k) = if k = 0 then (0, 3) else (ix (upL t i).reverse (k - 1), 0) := by
  obtain ⟨a, ha, he⟩ := upL_drop t i hi ((upL t i).length - 1 - k) (by omega)
  have h1 : ix (upL t i).reverse k = p0 t a := by
    rw [ix_reverse hk, ← upL_head, ← he, ix_drop, Nat.add_zero]
  have hl : (upL t a).length = k + 1 := by rw [← he, List.length_drop]; omega
  rw [h1, upT, g.path_of ha]
  simp only [if_true, List.length_reverse, hl]
  by_cases e : k = 0
  · rw [if_pos e, if_pos (by omega)]
  · rw [if_neg e, if_neg (by omega)]
    congr 1
    rw [ix_reverse (by rw [hl]; omega), ix_reverse (by omega), ← he, List.length_drop, ix_drop]
    congr 1
    omega
end Go.Proofs.YtpifkinlaicliaaGreatDoor
/-
  PLAIN LAWS 5 of contents: what is shown.
-/


namespace Go.Proofs.YtpifkinlaicliaaGreatDoor
open Go.RowKit

/-- is entry i shown, the topics o open? -/
def shB (t : List (Int × Int)) (o : List Int) (i : Nat) : Bool :=
  if par t i < 0 then true else shB t o (par t i).toNat && hasB o (p0 t (par t i).toNat)
termination_by i
decreasing_by have := par_lt t i; omega
theorem shB_root {t : List (Int × Int)} {o : List Int} {i : Nat} (h : par t i < 0) : shB t o i = true := by rw [shB, if_pos h]
theorem shB_deep {t : List (Int × Int)} {o : List Int} {i j : Nat} (h : par t i = (j : Int)) : shB t o i = (shB t o j && hasB o (p0 t j)) := by
  rw [shB, if_neg (by omega), h, Int.toNat_natCast]
def shTo (t : List (Int × Int)) (o : List Int) (k : Nat) : List Int := ((List.range k).filter fun j => shB t o j).map Int.ofNat
theorem shTo_yes {t : List (Int × Int)} {o : List Int} {k : Nat} (h : shB t o k = true) : shTo t o (k + 1) = shTo t o k ++ [(k : Int)] := by
  simp [shTo, List.range_succ, List.filter_append, h]
theorem shTo_no {t : List (Int × Int)} {o : List Int} {k : Nat} (h : shB t o k = false) : shTo t o (k + 1) = shTo t o k := by
  simp [shTo, List.range_succ, List.filter_append, h]
theorem shTo_len (t : List (Int × Int)) (o : List Int) (k : Nat) : (shTo t o k).length ≤ k := by
  unfold shTo
  have := List.length_filter_le (fun j => shB t o j) (List.range k)
  simpa using this
def shownT (t : List (Int × Int)) (o : List Int) : List Int × Int := if goodE t = 0 then (shTo t o t.length, 0) else ([], goodE t)
theorem shownT_good {t : List (Int × Int)} {o : List Int} (h : goodE t = 0) : shownT t o = (shTo t o t.length, 0) := by rw [shownT, if_pos h]
theorem shownT_bad {t : List (Int × Int)} {o : List Int} (h : goodE t ≠ 0) : shownT t o = ([], goodE t) := by rw [shownT, if_neg h]
/-! ### the program's map of the open, the first k of them -/
def opF (o : List Int) (k : Nat) : Int → Int := fun q => if hasB (o.take k) q = true then 1 else 0
theorem opF_zero (o : List Int) : opF o 0 = fun _ => 0 := by funext q; simp [opF, hasB]
theorem hasB_snoc (l : List Int) (x q : Int) : hasB (l ++ [x]) q = (hasB l q || (q == x)) := by
  unfold hasB
  rw [Bool.eq_iff_iff]
  simp
theorem take_ix {o : List Int} {k : Nat} (h : k < o.length) : o.take (k + 1) = o.take k ++ [ix o k] := by
  rw [List.take_succ_eq_append_getElem h]
  simp [ix, List.getD, h]
theorem opF_succ {o : List Int} {k : Nat} (h : k < o.length) : (fun q => if q = ix o k then 1 else opF o k q) = opF o (k + 1) := by
  funext q
  unfold opF
  rw [take_ix h, hasB_snoc]
  by_cases e : q = ix o k
  · rw [if_pos e, if_pos (by simp [e])]
  · have : (q == ix o k) = false := by simpa using e
    rw [if_neg e, this, Bool.or_false]
theorem opF_all (o : List Int) (q : Int) : opF o o.length q = if hasB o q = true then 1 else 0 := by unfold opF; rw [List.take_length]
/-- what has been seen among the first i -/
def seenF (t : List (Int × Int)) (o : List Int) (i j : Nat) : Int := if j < i ∧ shB t o j = true then 1 else 0
theorem seenF_zero (t : List (Int × Int)) (o : List Int) (j : Nat) : seenF t o 0 j = 0 := by simp [seenF]
theorem seenF_yes {t : List (Int × Int)} {o : List Int} {i : Nat} (h : shB t o i = true) (j : Nat) : (if j = i then 1 else seenF t o i j) = seenF t o (i + 1) j := by
  unfold seenF
  by_cases e : j = i
  · subst e; rw [if_pos rfl, if_pos ⟨by omega, h⟩]
  · rw [if_neg e]
    have : j < i + 1 ↔ j < i := by omega
    simp only [this]
theorem seenF_no {t : List (Int × Int)} {o : List Int} {i : Nat} (h : shB t o i = false) (j : Nat) : seenF t o i j = seenF t o (i + 1) j := by
  unfold seenF
  by_cases e : j = i
  · subst e; rw [if_neg (by omega), if_neg (by rw [h]; simp)]
  · have : j < i + 1 ↔ j < i := by omega
    simp only [this]
theorem seenF_at {t : List (Int × Int)} {o : List Int} {i j : Nat} (h : j < i) : seenF t o i j = if shB t o j = true then 1 else 0 := by
  unfold seenF
  simp only [h, true_and]
/-! ### the reference's tables of booleans -/
def tabB (n : Nat) (f : Nat → Bool) : List Bool := (List.range n).map f
def bx (l : List Bool) (k : Nat) : Bool := l.getD k false
theorem tabB_length (n : Nat) (f : Nat → Bool) : (tabB n f).length = n := by simp [tabB]
theorem bx_tab {n k : Nat} {f : Nat → Bool} (h : k < n) : bx (tabB n f) k = f k := by simp [bx, tabB, List.getD, h]
theorem tabB_congr {n : Nat} {f g : Nat → Bool} (h : ∀ k, k < n → f k = g k) : tabB n f = tabB n g := List.map_congr_left fun k hk => h k (List.mem_range.1 hk)
theorem tabB_set {n c : Nat} {f : Nat → Bool} {x : Bool} : (tabB n f).set c x = tabB n fun k => if k = c then x else f k := by
  refine List.ext_getElem (by simp [tabB]) fun i h1 h2 => ?_
  simp only [tabB, List.getElem_set, List.getElem_map, List.getElem_range]
  by_cases e : i = c
  · subst e; simp
  · rw [if_neg e, if_neg (Ne.symm e)]
theorem tabB_zero (n : Nat) : List.replicate n false = tabB n fun _ => false := by
  refine List.ext_getElem (by simp [tabB]) fun i h1 h2 => ?_
  simp [tabB]
/-- which entries the first k of the open unfold -/
def unfF (t : List (Int × Int)) (o : List Int) (k j : Nat) : Bool := hasB (o.take k) (p0 t j)
theorem unfF_zero (t : List (Int × Int)) (o : List Int) (j : Nat) : unfF t o 0 j = false := by simp [unfF, hasB]
theorem unfF_all (t : List (Int × Int)) (o : List Int) (j : Nat) : unfF t o o.length j = hasB o (p0 t j) := by unfold unfF; rw [List.take_length]
theorem Good.unfF_hit {t : List (Int × Int)} (g : Good t) {o : List Int} {k m : Nat} (hk : k < o.length) (h : atFrom t (ix o k) 0 = (m : Int)) (j : Nat) (hj : j < t.length) : (if j = m then true else unfF t o k j) = unfF t o (k + 1) j := by
  unfold unfF
  rw [take_ix hk, hasB_snoc]
  rcases atFrom_cases t (ix o k) 0 with ⟨h1, _⟩ | ⟨m', h1, _, h3, h4, _⟩
  · omega
  · obtain rfl : m = m' := by omega
    by_cases e : j = m
    · subst e; rw [if_pos rfl, h4]; simp
    · rw [if_neg e]
      have : (p0 t j == ix o k) = false := by
        rw [beq_eq_false_iff_ne]
        intro e'
        have a := g.at_ hj
        rw [e', h1] at a
        omega
      rw [this, Bool.or_false]
theorem unfF_miss {t : List (Int × Int)} {o : List Int} {k : Nat} (hk : k < o.length) (h : atFrom t (ix o k) 0 = -1) (j : Nat) (hj : j < t.length) : unfF t o k j = unfF t o (k + 1) j := by
  unfold unfF
  rw [take_ix hk, hasB_snoc]
  rcases atFrom_cases t (ix o k) 0 with ⟨_, h2⟩ | ⟨m', h1, _⟩
  · have : (p0 t j == ix o k) = false := by
      rw [beq_eq_false_iff_ne]
      exact h2 j (by omega) hj
    rw [this, Bool.or_false]
  · omega
def seenR (t : List (Int × Int)) (o : List Int) (i j : Nat) : Bool := decide (j < i) && shB t o j
theorem seenR_zero (t : List (Int × Int)) (o : List Int) (j : Nat) : seenR t o 0 j = false := by simp [seenR]
theorem seenR_next (t : List (Int × Int)) (o : List Int) (i j : Nat) : (if j = i then shB t o i else seenR t o i j) = seenR t o (i + 1) j := by
  unfold seenR
  by_cases e : j = i
  · subst e; simp
  · rw [if_neg e]
    have : j < i + 1 ↔ j < i := by omega
    simp only [this]
theorem seenR_at {t : List (Int × Int)} {o : List Int} {i j : Nat} (h : j < i) : seenR t o i j = shB t o j := by simp [seenR, h]
end Go.Proofs.YtpifkinlaicliaaGreatDoor
/-
  OWNED ROWS OF BOOLEANS; one number appended to a row, over no program.
-/


namespace Go.Proofs.YtpifkinlaicliaaGreatDoor
open Go.RowKit

def OwnB (E : TypeId) (w0 w : World) (v : Value) (l : List Bool) : Prop := w.ownsRow w0.heap.size E 1 v l.length (l.map (.bool))
theorem OwnB.nil (E : TypeId) (w0 w : World) : OwnB E w0 w (.slice none 0 0) [] := World.ownsRow_nil w _ E 1
theorem OwnB.kept {E : TypeId} {w0 w w' : World} {v : Value} {l : List Bool} {row : Option Nat} (h : OwnB E w0 w v l) (hg : w.grownBy w' row) (hne : v.ownBlock = none ∨ v.ownBlock ≠ row) : OwnB E w0 w' v l := World.ownsRow.kept h hg hne
theorem OwnB.alloc {E : TypeId} {w0 w : World} {v : Value} {l : List Bool} (h : OwnB E w0 w v l) (o : Obj) : OwnB E w0 (w.alloc o) v l := World.ownsRow.alloc h o
theorem OwnB.old {E : TypeId} {w0 w w' : World} {v : Value} {l : List Bool} (h : OwnB E w0 w v l) (o : Old w w') : OwnB E w0 w' v l := by
  have hg := Old.grownBy o none
  exact World.ownsRow.kept h hg (by cases hv : v.ownBlock <;> simp)
theorem OwnB.len {E : TypeId} {w0 w : World} {a : Option Addr} {n cap : Nat} {l : List Bool} (h : OwnB E w0 w (.slice a n cap) l) : n = l.length := by
  obtain ⟨a', cap', e, _⟩ := ownsRow_form h
  simp at e
  exact e.2.1
theorem OwnB.block {E : TypeId} {w0 w : World} {a : Option Addr} {n cap : Nat} {l : List Bool} (h : OwnB E w0 w (.slice a n cap) l) (hl : 0 < l.length) : ∃ g, a = some ⟨g, 0, none⟩ ∧ w0.heap.size ≤ g ∧ g < w.heap.size := by
  obtain ⟨h1, ⟨h2, h0⟩ | ⟨g, c, cur, e, hb, hg, _⟩⟩ := h
  · omega
  · simp at e
    exact ⟨g, e.1, hb, (Array.getElem?_eq_some_iff.1 hg).1⟩
theorem OwnB.cell {E : TypeId} {w0 w : World} {g n cap : Nat} {l : List Bool} (h : OwnB E w0 w (.slice (some ⟨g, 0, none⟩) n cap) l) {k : Nat} (hk : k < l.length) : w.cell? ⟨g, k, none⟩ = some (.bool (bx l k)) := by
  obtain rfl := h.len
  rw [World.ownsRow.cellAt h k (by omega)]
  simp [bx, List.getD, hk]
theorem OwnB.frozen {E : TypeId} {w0 w : World} {g n cap : Nat} {l : List Bool} (h : OwnB E w0 w (.slice (some ⟨g, 0, none⟩) n cap) l) (k : Nat) : w.frozen? ⟨g, k, none⟩ = false := by
  obtain rfl := h.len
  exact World.ownsRow.frozenAt h k
theorem OwnB.stored {E : TypeId} {w0 w : World} {g n cap : Nat} {l : List Bool} (h : OwnB E w0 w (.slice (some ⟨g, 0, none⟩) n cap) l) (k : Nat) (x : Bool) : OwnB E w0 (w.setCell ⟨g, k, none⟩ (.bool x)) (.slice (some ⟨g, 0, none⟩) n cap) (l.set k x) := by
  obtain rfl := h.len
  have := (World.ownsRow.stored h k (.bool x)).1
  unfold OwnB
  rw [List.length_set, List.map_set]
  exact this
theorem OwnB.drew {E : TypeId} {w0 w : World} {v : Value} {l : List Bool} (h : OwnB E w0 w v l) : OwnB E w0 w.drew v l := h
theorem OwnB.lower {E : TypeId} {w0 w1 w : World} {v : Value} {l : List Bool} (h : OwnB E w1 w v l) (hs : w0.heap.size ≤ w1.heap.size) : OwnB E w0 w v l := by
  obtain ⟨h1, h2⟩ := h
  refine ⟨h1, ?_⟩
  rcases h2 with h2 | ⟨g, cap, cur, e, hb, r⟩
  · exact .inl h2
  · exact .inr ⟨g, cap, cur, e, Nat.le_trans hs hb, r⟩
theorem OwnB.but {E : TypeId} {w0 w w' : World} {a : Option Addr} {n cap : Nat} {l : List Bool} {g : Nat} (h : OwnB E w0 w (.slice a n cap) l) (o : OldBut g w w') (hg : ∀ x, a = some x → x.block ≠ g) : OwnB E w0 w' (.slice a n cap) l := by
  obtain ⟨h1, h2⟩ := h
  refine ⟨h1, ?_⟩
  rcases h2 with h2 | ⟨g', cap', cur, e, hb, hc, r⟩
  · exact .inl h2
  · refine .inr ⟨g', cap', cur, e, hb, ?_, r⟩
    simp at e
    rw [o.block g' (Array.getElem?_eq_some_iff.1 hc).1 (hg _ e.1)]
    exact hc
theorem OwnB.setCell_other {E : TypeId} {w0 w : World} {a : Option Addr} {n cap : Nat} {l : List Bool} {g o : Nat} (h : OwnB E w0 w (.slice a n cap) l) (v : Value) (hg : ∀ x, a = some x → x.block ≠ g) : OwnB E w0 (w.setCell ⟨g, o, none⟩ v) (.slice a n cap) l :=
  h.but ((OldBut.refl g w).setCell o v) hg
section
variable {P : Program} {ops : Array Oper} {rest : List Oper} {o : Oper} {a : Act} {Q : Exit → Act → World → Prop}
theorem wpList_make_bools {w0 w : World} (hg : o.guard = none) (l c : Operand) (T : TypeId) (hop : o.op = Op.makeSlice T l c) (E : TypeId) (ht : P.underlying T = some (.slice E))
    (hinfo : (P.info? E).map (fun i => (i.zero, i.size, i.bytes)) = some (some (.bool false), 1, 1)) (n : Nat) (hl : a.eval l = .int .i64 n) (hc : a.eval c = .int .i64 n) (hn : n ≤ 1073741824) (hold : Old w0 w)
    (hK : ∀ w', OwnB E w0 w' (.slice (some ⟨w.heap.size, 0, none⟩) n n) (List.replicate n false) → Old w w' → w.heap.size < w'.heap.size → wpList P ops Q rest (a.put o.dst (.slice (some ⟨w.heap.size, 0, none⟩) n n)) w') : wpList P ops Q (o :: rest) a w := by
  obtain ⟨i, hi, hz0, hz1, hz2⟩ := info_parts hinfo
  refine wpList_make_full w hg l c T hop w0.heap.size E i (.bool false) 1 ht hi hz0 hz1 .i64 .i64 n n n hl hc rfl rfl (by rw [hz2]; omega) (by simp [maxLen]; omega) hold.size fun w' h1 h2 => ?_
  refine hK w' ?_ ⟨h2.os, h2.tape, h2.output, h2.size, fun k hk => h2.block k hk (by simp)⟩ (h1.lt _ rfl).2
  unfold OwnB
  rw [List.length_replicate, List.map_replicate]
  simpa [toList_madeCells_one, Value.cells] using h1
/-- append of one number to a row that is owned from any place on; nothing is said of what lies ahead but that it is kept -/
theorem wpList_append_int1 {w0 w : World} (hgd : o.guard = none) (s x : Operand) (T : TypeId) (ho : o.op = .call { callee := .builtin .append, args := #[s, x], argTypes := #[T, T] })
    (E : TypeId) (ht : P.underlying T = some (.slice E)) (hinfo : (P.info? E).map (fun i => (i.zero, i.size, i.bytes)) = some (some (.int .i64 0), 1, 8))
    (v : Value) (l : List Int) (hs : a.eval s = v) (hown : OwnI E w0 w v l) (b : Nat) (y : Int) (hx : a.eval x = .slice (some ⟨b, 0, none⟩) 1 1) (hc : w.cell? ⟨b, 0, none⟩ = some (.int .i64 y))
    (hbytes : (l.length + 1) * 8 ≤ 140737488355328) (hold : w0.heap.size ≤ w.heap.size)
    (h : ∀ v' w', OwnI E w0 w' v' (l ++ [y]) → w.grownBy w' v.ownBlock → wpList P ops Q rest (a.put o.dst v') w') : wpList P ops Q (o :: rest) a w := by
  obtain ⟨i, hi, hz0, hz1, hz2⟩ := info_parts hinfo
  refine wpList_append_own w hgd s x T ho w0.heap.size E i (.int .i64 0) 1 8 ht hi hz0 hz1 hz2 rfl (by decide) v l.length (l.map (.int .i64)) hs hown ⟨b, 0, none⟩ 1 1 [.int .i64 y] hx rfl ?_ (by simp [Value.oneCell']) (by simp only [maxLen]; omega) hbytes hold ?_
  · intro j u hu
    match j, hu with
    | 0, hu => simp at hu; subst hu; exact hc
  · intro v' w' a1 a2 _
    refine h v' w' ?_ a2
    unfold OwnI
    rw [List.map_append, List.length_append]
    exact a1
end

end Go.Proofs.YtpifkinlaicliaaGreatDoor
