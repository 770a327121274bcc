/-
  KEYWORDS, PLAIN: mentions, places, entries, the index or the first fault; over no program.
-/
import Derived.Test.YtohngjkedhpikaaGreatDoorZBase
import Derived.Test.YtohngjkedhpikaaGreatDoorZBuilder
import Derived.Test.YtohngjkedhpikaaGreatDoorZTocFault
namespace Go.Proofs.YtohngjkedhpikaaGreatDoor
open Go.RowKit

/-- a key; a see; a topic -/
structure Kq where
  term : ByteArray
  sub : ByteArray
  line : Int
structure Sq where
  frm : ByteArray
  aim : ByteArray
  line : Int
structure Tk where
  keys : List Kq
  sees : List Sq
/-- where an entry stands: the Folds of its Term and its Sub -/
abbrev Pl := ByteArray × ByteArray
/-- a key or a see of a topic -/
structure Mn where
  topic : Int
  src : Int
  line : Int
  term : ByteArray
  sub : ByteArray
  aim : ByteArray
  see : Int
def Mn.pl (m : Mn) : Pl := (foldS m.term, foldS m.sub)
def noB : ByteArray := ⟨#[]⟩
def mnK (n i : Int) (k : Kq) : Mn := ⟨n, i, k.line, k.term, k.sub, noB, 0⟩
def mnS (n i : Int) (s : Sq) : Mn := ⟨n, i, s.line, s.frm, noB, s.aim, 1⟩
def mnT (n i : Int) (t : Tk) : List Mn := t.keys.map (mnK n i) ++ t.sees.map (mnS n i)
/-- of the first topics of a source; n: how many topics the sources ahead have; i: the source -/
def mnsT (n : Nat) (i : Int) (T : List Tk) : Nat → List Mn
  | 0 => []
  | b + 1 => mnsT n i T b ++ ((T[b]?.map (mnT ((n + b : Nat) : Int) i)).getD [])
def totK (S : List (List Tk)) : Nat → Nat
  | 0 => 0
  | a + 1 => totK S a + (S.getD a []).length
/-- of the first sources -/
def mns (S : List (List Tk)) : Nat → List Mn
  | 0 => []
  | a + 1 => mns S a ++ mnsT (totK S a) a (S.getD a []) (S.getD a []).length
theorem mnsT_succ {n b : Nat} {i : Int} {T : List Tk} {t : Tk} (h : T[b]? = some t) : mnsT n i T (b + 1) = mnsT n i T b ++ mnT ((n + b : Nat) : Int) i t := by
  rw [mnsT, h]; rfl
theorem mns_succ {S : List (List Tk)} {a : Nat} {T : List Tk} (h : S[a]? = some T) : mns S (a + 1) = mns S a ++ mnsT (totK S a) a T T.length := by
  have e : S.getD a [] = T := by simp [List.getD, h]
  rw [mns, e]
theorem totK_succ {S : List (List Tk)} {a : Nat} {T : List Tk} (h : S[a]? = some T) : totK S (a + 1) = totK S a + T.length := by
  have e : S.getD a [] = T := by simp [List.getD, h]
  rw [totK, e]
theorem totK_mono (S : List (List Tk)) {a b : Nat} (h : a ≤ b) : totK S a ≤ totK S b := by
  induction h with
  | refl => exact Nat.le_refl _
  | step _ ih => rw [totK]; omega
theorem mem_mnsT {n b : Nat} {i : Int} {T : List Tk} {m : Mn} : m ∈ mnsT n i T b ↔ ∃ (j : Nat) (t : Tk), j < b ∧ T[j]? = some t ∧ m ∈ mnT ((n + j : Nat) : Int) i t := by
  induction b with
  | zero => simp [mnsT]
  | succ b ih =>
    rw [mnsT, List.mem_append, ih]
    constructor
    · rintro (⟨j, t, hj, h1, h2⟩ | h)
      · exact ⟨j, t, by omega, h1, h2⟩
      · cases ht : T[b]? with
        | none => rw [ht] at h; simp at h
        | some t => rw [ht] at h; exact ⟨b, t, by omega, ht, h⟩
    · rintro ⟨j, t, hj, h1, h2⟩
      by_cases e : j = b
      · subst e; right; rw [h1]; exact h2
      · left; exact ⟨j, t, by omega, h1, h2⟩
theorem mem_mns {S : List (List Tk)} {c : Nat} {m : Mn} : m ∈ mns S c ↔ ∃ (a b : Nat) (T : List Tk) (t : Tk), a < c ∧ S[a]? = some T ∧ T[b]? = some t ∧ m ∈ mnT ((totK S a + b : Nat) : Int) a t := by
  induction c with
  | zero => simp [mns]
  | succ c ih =>
    rw [mns, List.mem_append, ih, mem_mnsT]
    constructor
    · rintro (⟨a, b, T, t, hj, h⟩ | ⟨b, t, hb, h1, h2⟩)
      · exact ⟨a, b, T, t, by omega, h⟩
      · cases hT : S[c]? with
        | none => rw [show S.getD c [] = [] from by simp [List.getD, hT]] at hb; simp at hb
        | some T =>
          rw [show S.getD c [] = T from by simp [List.getD, hT]] at h1
          exact ⟨c, b, T, t, by omega, hT, h1, h2⟩
    · rintro ⟨a, b, T, t, ha, h1, h2, h3⟩
      by_cases e : a = c
      · subst e
        have e : S.getD a [] = T := by simp [List.getD, h1]
        rw [e]
        exact .inr ⟨b, t, (List.getElem?_eq_some_iff.1 h2).1, h2, h3⟩
      · exact .inl ⟨a, b, T, t, by omega, h1, h2, h3⟩
theorem mnT_see {n i : Int} {t : Tk} {m : Mn} (h : m ∈ mnT n i t) : m.topic = n ∧ m.src = i ∧ ((m.see = 0 ∧ m.aim = noB ∧ ∃ k ∈ t.keys, m = mnK n i k) ∨ (m.see = 1 ∧ m.sub = noB ∧ ∃ s ∈ t.sees, m = mnS n i s)) := by
  rw [mnT, List.mem_append, List.mem_map, List.mem_map] at h
  rcases h with ⟨k, hk, rfl⟩ | ⟨s, hs, rfl⟩
  · exact ⟨rfl, rfl, .inl ⟨rfl, rfl, k, hk, rfl⟩⟩
  · exact ⟨rfl, rfl, .inr ⟨rfl, rfl, s, hs, rfl⟩⟩
theorem mns_see {S : List (List Tk)} {c : Nat} {m : Mn} (h : m ∈ mns S c) : m.see = 0 ∨ (m.see = 1 ∧ m.sub = noB) := by
  obtain ⟨a, b, T, t, _, _, _, h⟩ := mem_mns.1 h
  rcases (mnT_see h).2.2 with ⟨h, _⟩ | ⟨h, k, _⟩
  · exact .inl h
  · exact .inr ⟨h, k⟩

/-! ### entries -/
structure En where
  term : ByteArray
  sub : ByteArray
  topics : List Int
  sees : List ByteArray
instance plMem (a : Pl) (P : List Pl) : Decidable (a ∈ P) := decidable_of_iff (P.any (fun x => decide (x = a)) = true) (by simp)
def placeStep (P : List Pl) (m : Mn) : List Pl := if m.pl ∈ P then P else P ++ [m.pl]
def places (M : List Mn) : List Pl := M.foldl placeStep []
def topStep (p : Pl) (l : List Int) (m : Mn) : List Int := if m.pl = p ∧ ¬ m.see = 1 ∧ ¬ l.getLast? = some m.topic then l ++ [m.topic] else l
def topicsOf (M : List Mn) (p : Pl) : List Int := M.foldl (topStep p) []
def seeStep (p : Pl) (l : List ByteArray) (m : Mn) : List ByteArray := if m.pl = p ∧ m.see = 1 ∧ ¬ (∃ s ∈ l, foldS s = foldS m.aim) then l ++ [m.aim] else l
def seesOf (M : List Mn) (p : Pl) : List ByteArray := M.foldl (seeStep p) []
def termO (M : List Mn) (t : ByteArray) : Option ByteArray := (M.find? fun m => foldS m.term = t).map Mn.term
def subO (M : List Mn) (p : Pl) : Option ByteArray := (M.find? fun m => m.pl = p).map Mn.sub
def entOf (M : List Mn) (p : Pl) : En := ⟨(termO M p.1).getD noB, (subO M p).getD noB, topicsOf M p, seesOf M p⟩
variable {M : List Mn} {m : Mn} {p : Pl}
theorem places_snoc (M : List Mn) (m : Mn) : places (M ++ [m]) = placeStep (places M) m := by simp [places]
theorem topicsOf_snoc (M : List Mn) (m : Mn) (p : Pl) : topicsOf (M ++ [m]) p = topStep p (topicsOf M p) m := by simp [topicsOf]
theorem seesOf_snoc (M : List Mn) (m : Mn) (p : Pl) : seesOf (M ++ [m]) p = seeStep p (seesOf M p) m := by simp [seesOf]
theorem termO_snoc (M : List Mn) (m : Mn) (t : ByteArray) : termO (M ++ [m]) t = if (termO M t).isSome then termO M t else if t = foldS m.term then some m.term else none := by
  unfold termO
  rw [List.find?_append]
  cases h : M.find? fun m => foldS m.term = t with
  | some x => simp
  | none =>
    by_cases e : t = foldS m.term
    · simp [e]
    · simp [e, show ¬ foldS m.term = t from fun k => e k.symm]
theorem subO_snoc (M : List Mn) (m : Mn) (p : Pl) : subO (M ++ [m]) p = if (subO M p).isSome then subO M p else if p = m.pl then some m.sub else none := by
  unfold subO
  rw [List.find?_append]
  cases h : M.find? fun m => m.pl = p with
  | some x => simp
  | none =>
    by_cases e : p = m.pl
    · simp [e]
    · simp [e, show ¬ m.pl = p from fun k => e k.symm]
theorem mem_places : p ∈ places M ↔ ∃ m ∈ M, m.pl = p := by
  induction M using snocI with
  | h0 => simp [places]
  | h1 M m ih =>
    rw [places_snoc, placeStep]
    split
    · rename_i h
      rw [ih]
      constructor
      · rintro ⟨x, hx, e⟩; exact ⟨x, by simp [hx], e⟩
      · rintro ⟨x, hx, rfl⟩
        rw [List.mem_append, List.mem_singleton] at hx
        rcases hx with hx | rfl
        · exact ⟨x, hx, rfl⟩
        · exact ih.1 h
    · rw [List.mem_append, ih, List.mem_singleton]
      constructor
      · rintro (⟨x, hx, e⟩ | rfl)
        · exact ⟨x, by simp [hx], e⟩
        · exact ⟨m, by simp, rfl⟩
      · rintro ⟨x, hx, rfl⟩
        rw [List.mem_append, List.mem_singleton] at hx
        rcases hx with hx | rfl
        · exact .inl ⟨x, hx, rfl⟩
        · exact .inr rfl
theorem places_nodup (M : List Mn) : (places M).Nodup := by
  induction M using snocI with
  | h0 => simp [places]
  | h1 M m ih =>
    rw [places_snoc, placeStep]
    split
    · exact ih
    · rename_i h
      rw [List.nodup_append]
      refine ⟨ih, by simp, ?_⟩
      intro x hx y hy e
      rw [List.mem_singleton] at hy
      subst hy; subst e
      exact h hx
theorem places_length (M : List Mn) : (places M).length ≤ M.length := by
  induction M using snocI with
  | h0 => simp [places]
  | h1 M m ih =>
    rw [places_snoc, placeStep]
    split <;> simp <;> omega
theorem termO_some {t : ByteArray} : (termO M t).isSome = true ↔ ∃ m ∈ M, foldS m.term = t := by
  unfold termO
  rw [Option.isSome_map, List.find?_isSome]
  simp
theorem subO_some : (subO M p).isSome = true ↔ ∃ m ∈ M, m.pl = p := by
  unfold subO
  rw [Option.isSome_map, List.find?_isSome]
  simp
theorem termO_fold {t x : ByteArray} (h : termO M t = some x) : foldS x = t ∧ ∃ m ∈ M, m.term = x := by
  unfold termO at h
  rw [Option.map_eq_some_iff] at h
  obtain ⟨m, h1, rfl⟩ := h
  have := List.find?_some h1
  exact ⟨by simpa using this, m, List.mem_of_find?_eq_some h1, rfl⟩
theorem subO_fold {x : ByteArray} (h : subO M p = some x) : foldS x = p.2 ∧ ∃ m ∈ M, m.pl = p ∧ m.sub = x := by
  unfold subO at h
  rw [Option.map_eq_some_iff] at h
  obtain ⟨m, h1, rfl⟩ := h
  have := List.find?_some h1
  have e : m.pl = p := by simpa using this
  exact ⟨by rw [← e]; rfl, m, List.mem_of_find?_eq_some h1, e, rfl⟩
theorem topicsOf_out (h : p ∉ places M) : topicsOf M p = [] := by
  induction M using snocI with
  | h0 => rfl
  | h1 M m ih =>
    have h1 : p ∉ places M := fun k => h (mem_places.2 (by obtain ⟨x, hx, e⟩ := mem_places.1 k; exact ⟨x, by simp [hx], e⟩))
    have h2 : ¬ m.pl = p := fun k => h (mem_places.2 ⟨m, by simp, k⟩)
    rw [topicsOf_snoc, ih h1, topStep, if_neg (fun k => h2 k.1)]
theorem seesOf_out (h : p ∉ places M) : seesOf M p = [] := by
  induction M using snocI with
  | h0 => rfl
  | h1 M m ih =>
    have h1 : p ∉ places M := fun k => h (mem_places.2 (by obtain ⟨x, hx, e⟩ := mem_places.1 k; exact ⟨x, by simp [hx], e⟩))
    have h2 : ¬ m.pl = p := fun k => h (mem_places.2 ⟨m, by simp, k⟩)
    rw [seesOf_snoc, ih h1, seeStep, if_neg (fun k => h2 k.1)]
/-- another place's entry stays as it was -/
theorem entOf_other (hp : p ∈ places M) (h : ¬ m.pl = p) : entOf (M ++ [m]) p = entOf M p := by
  obtain ⟨x, hx, hxp⟩ := mem_places.1 hp
  have h1 : (termO M p.1).isSome = true := termO_some.2 ⟨x, hx, by rw [← hxp]; rfl⟩
  have h2 : (subO M p).isSome = true := subO_some.2 ⟨x, hx, hxp⟩
  unfold entOf
  rw [termO_snoc, if_pos h1, subO_snoc, if_pos h2, topicsOf_snoc, topStep, if_neg (fun k => h k.1), seesOf_snoc, seeStep, if_neg (fun k => h k.1)]
theorem termO_in (hp : p ∈ places M) : termO (M ++ [m]) p.1 = termO M p.1 := by
  obtain ⟨x, hx, hxp⟩ := mem_places.1 hp
  rw [termO_snoc, if_pos (termO_some.2 ⟨x, hx, by rw [← hxp]; rfl⟩)]
theorem subO_in (hp : p ∈ places M) : subO (M ++ [m]) p = subO M p := by
  obtain ⟨x, hx, hxp⟩ := mem_places.1 hp
  rw [subO_snoc, if_pos (subO_some.2 ⟨x, hx, hxp⟩)]
theorem topicsOf_mem {x : Int} : x ∈ topicsOf M p ↔ ∃ m ∈ M, m.pl = p ∧ ¬ m.see = 1 ∧ m.topic = x := by
  induction M using snocI with
  | h0 => simp [topicsOf]
  | h1 M m ih =>
    rw [topicsOf_snoc, topStep]
    split
    · rename_i h
      rw [List.mem_append, ih, List.mem_singleton]
      constructor
      · rintro (⟨y, hy, e⟩ | rfl)
        · exact ⟨y, by simp [hy], e⟩
        · exact ⟨m, by simp, h.1, h.2.1, rfl⟩
      · rintro ⟨y, hy, e⟩
        rw [List.mem_append, List.mem_singleton] at hy
        rcases hy with hy | rfl
        · exact .inl ⟨y, hy, e⟩
        · exact .inr e.2.2.symm
    · rename_i h
      rw [ih]
      constructor
      · rintro ⟨y, hy, e⟩; exact ⟨y, by simp [hy], e⟩
      · rintro ⟨y, hy, e⟩
        rw [List.mem_append, List.mem_singleton] at hy
        rcases hy with hy | rfl
        · exact ⟨y, hy, e⟩
        · have : (topicsOf M p).getLast? = some y.topic := Classical.byContradiction fun k => h ⟨e.1, e.2.1, k⟩
          rw [← ih, ← e.2.2]
          exact List.mem_of_getLast? this
theorem seesOf_mem {x : ByteArray} (h : x ∈ seesOf M p) : ∃ m ∈ M, m.pl = p ∧ m.see = 1 ∧ m.aim = x := by
  induction M using snocI with
  | h0 => simp [seesOf] at h
  | h1 M m ih =>
    rw [seesOf_snoc, seeStep] at h
    split at h
    · rename_i k
      rw [List.mem_append, List.mem_singleton] at h
      rcases h with h | rfl
      · obtain ⟨y, hy, e⟩ := ih h; exact ⟨y, by simp [hy], e⟩
      · exact ⟨m, by simp, k.1, k.2.1, rfl⟩
    · obtain ⟨y, hy, e⟩ := ih h; exact ⟨y, by simp [hy], e⟩
theorem seesOf_has (hm : m ∈ M) (h1 : m.pl = p) (h2 : m.see = 1) : ∃ s ∈ seesOf M p, foldS s = foldS m.aim := by
  induction M using snocI with
  | h0 => simp at hm
  | h1 M x ih =>
    rw [seesOf_snoc, seeStep]
    rw [List.mem_append, List.mem_singleton] at hm
    split
    · rcases hm with hm | rfl
      · obtain ⟨s, hs, e⟩ := ih hm; exact ⟨s, by simp [hs], e⟩
      · exact ⟨m.aim, by simp, rfl⟩
    · rename_i k
      rcases hm with hm | rfl
      · exact ih hm
      · exact Classical.byContradiction fun k' => k ⟨h1, h2, k'⟩
theorem seesOf_folds : ((seesOf M p).map foldS).Nodup := by
  induction M using snocI with
  | h0 => simp [seesOf]
  | h1 M m ih =>
    rw [seesOf_snoc, seeStep]
    split
    · rename_i h
      rw [List.map_append, List.nodup_append]
      refine ⟨ih, by simp, ?_⟩
      intro x hx y hy e
      simp at hy
      subst hy; subst e
      obtain ⟨s, hs, e⟩ := List.mem_map.1 hx
      exact h.2.2 ⟨s, hs, e⟩
    · exact ih

/-! ### the order -/
def cmpP (p q : Pl) : Int := if compareT p.1 q.1 = 0 then compareT p.2 q.2 else compareT p.1 q.1
def cmpS (a b : ByteArray) : Int := compareT (foldS a) (foldS b)
theorem compareT_ord : OrdA compareT := ⟨compareT_anti, fun _ _ _ => compareT_trans⟩
theorem cmpS_ord : OrdA cmpS := ⟨fun _ _ => compareT_anti _ _, fun _ _ _ => compareT_trans⟩
theorem cmpP_zero {p q : Pl} : cmpP p q = 0 ↔ p = q := by
  unfold cmpP
  constructor
  · intro h
    split at h
    · rename_i k
      exact Prod.ext (compareT_zero.1 k) (compareT_zero.1 h)
    · exact absurd h ‹_›
  · rintro rfl
    rw [if_pos (compareT_zero.2 rfl)]; exact compareT_zero.2 rfl
theorem cmpP_ord : OrdA cmpP := by
  refine ⟨fun p q => ?_, fun p q r h1 h2 => ?_⟩
  · unfold cmpP
    rw [compareT_anti p.1 q.1]
    by_cases h : compareT p.1 q.1 = 0
    · rw [if_pos (by omega), if_pos h, compareT_anti]
    · rw [if_neg (by omega), if_neg h]
  · unfold cmpP at *
    by_cases a : compareT p.1 q.1 = 0
    · have e := compareT_zero.1 a
      rw [if_pos a] at h1
      rw [e]
      by_cases b : compareT q.1 r.1 = 0
      · rw [if_pos b] at h2 ⊢
        exact compareT_trans h1 h2
      · rw [if_neg b] at h2 ⊢
        exact h2
    · rw [if_neg a] at h1
      by_cases b : compareT q.1 r.1 = 0
      · have e := compareT_zero.1 b
        rw [← e, if_neg a]; exact h1
      · rw [if_neg b] at h2
        have h3 := compareT_trans h1 h2
        by_cases d : compareT p.1 r.1 = 0
        · exfalso
          have e := compareT_zero.1 d
          have := compareT_anti q.1 r.1
          rw [e] at h1 a
          omega
        · rw [if_neg d]; exact h3
/-- the entry as the index has it -/
def ixE (M : List Mn) (p : Pl) : En := { entOf M p with sees := srt cmpS (seesOf M p) }
def ixOf (M : List Mn) : List En := (srt cmpP (places M)).map (ixE M)

/-! ### what is refused -/
def mayT (s : ByteArray) : Bool := decide (¬ s = noB) && (decide (s.size ≤ 64) && ((plainAt s.data.toList 0).2 && decide (¬ foldS s = noB)))
theorem mayT_ok {s : ByteArray} (h : mayT s = true) : ¬ s = noB ∧ s.size ≤ 64 ∧ ¬ foldS s = noB := by
  unfold mayT at h
  simp only [Bool.and_eq_true, decide_eq_true_eq] at h
  exact ⟨h.1, h.2.1, h.2.2.2⟩
/-- the word of a mention that may not be -/
def badW (m : Mn) : Option ByteArray :=
  if mayT m.term = false then some m.term else if ¬ m.sub = noB ∧ mayT m.sub = false then some m.sub else if m.see = 1 ∧ mayT m.aim = false then some m.aim else none
def termF (m : Mn) : Option Flt := (badW m).map fun x => ⟨90, m.src, m.line, 0, x⟩
/-- one comes from a to there -/
inductive Rch (E : ByteArray → ByteArray → Prop) (a : ByteArray) : ByteArray → Prop
  | refl : Rch E a a
  | step {b c : ByteArray} : Rch E a b → E b c → Rch E a c
def edgeM (M : List Mn) (a b : ByteArray) : Prop := ∃ m ∈ M, m.see = 1 ∧ foldS m.term = a ∧ foldS m.aim = b
def hasM (M : List Mn) (t : ByteArray) : Prop := ∃ m ∈ M, foldS m.term = t
open Classical in
noncomputable def seeF (M : List Mn) (m : Mn) : Option Flt :=
  if m.see = 1 then (if hasM M (foldS m.aim) then (if Rch (edgeM M) (foldS m.aim) (foldS m.term) then some ⟨92, m.src, m.line, 0, m.aim⟩ else none) else some ⟨91, m.src, m.line, 0, m.aim⟩) else none
def longF : Flt := ⟨2, 0, 0, 0, noB⟩
/-- the index, or the first fault -/
noncomputable def buildK (ns nt : Nat) (M : List Mn) : Except Flt (List En) :=
  if 64 < ns ∨ 1000 < nt then .error longF
  else if 10000 < (places M).length then .error longF
  else match M.findSome? termF with
    | some f => .error f
    | none => match M.findSome? (seeF M) with
      | some f => .error f
      | none => .ok (ixOf M)
theorem first_some {α β : Type} {g : α → Option β} {l : List α} {i : Nat} {x : α} {f : β} (hx : l[i]? = some x) (h : ∀ j y, j < i → l[j]? = some y → g y = none) (hf : g x = some f) : l.findSome? g = some f := by
  induction l generalizing i with
  | nil => simp at hx
  | cons y l ih =>
    cases i with
    | zero =>
      obtain rfl : y = x := by simpa using hx
      simp [hf]
    | succ i =>
      have h0 := h 0 y (by omega) rfl
      rw [List.findSome?_cons, h0]
      exact ih (by simpa using hx) fun j z hj hz => h (j + 1) z (by omega) (by simpa using hz)
theorem first_none {α β : Type} {g : α → Option β} {l : List α} (h : ∀ (j : Nat) (y : α), l[j]? = some y → g y = none) : l.findSome? g = none := by
  rw [List.findSome?_eq_none_iff]
  intro x hx
  obtain ⟨j, hj⟩ := List.getElem?_of_mem hx
  exact h j x hj
theorem first_of_none {α β : Type} {g : α → Option β} {l : List α} (h : l.findSome? g = none) {x : α} (hx : x ∈ l) : g x = none := List.findSome?_eq_none_iff.1 h x hx
theorem buildK_long {ns nt : Nat} {M : List Mn} (h : 64 < ns ∨ 1000 < nt) : buildK ns nt M = .error longF := if_pos h
theorem buildK_many {ns nt : Nat} {M : List Mn} (h : 10000 < (places M).length) : buildK ns nt M = .error longF := by
  unfold buildK
  by_cases k : 64 < ns ∨ 1000 < nt
  · rw [if_pos k]
  · rw [if_neg k, if_pos h]
theorem buildK_term {ns nt : Nat} {M : List Mn} {f : Flt} (h : ¬ (64 < ns ∨ 1000 < nt)) (h2 : ¬ 10000 < (places M).length) (h3 : M.findSome? termF = some f) : buildK ns nt M = .error f := by
  unfold buildK
  rw [if_neg h, if_neg h2, h3]
theorem buildK_see {ns nt : Nat} {M : List Mn} {f : Flt} (h : ¬ (64 < ns ∨ 1000 < nt)) (h2 : ¬ 10000 < (places M).length) (h3 : M.findSome? termF = none) (h4 : M.findSome? (seeF M) = some f) : buildK ns nt M = .error f := by
  unfold buildK
  rw [if_neg h, if_neg h2, h3, h4]
theorem buildK_ok {ns nt : Nat} {M : List Mn} (h : ¬ (64 < ns ∨ 1000 < nt)) (h2 : ¬ 10000 < (places M).length) (h3 : M.findSome? termF = none) (h4 : M.findSome? (seeF M) = none) : buildK ns nt M = .ok (ixOf M) := by
  unfold buildK
  rw [if_neg h, if_neg h2, h3, h4]
theorem termF_code {m : Mn} {f : Flt} (h : termF m = some f) : f.code = 90 := by
  unfold termF at h
  rw [Option.map_eq_some_iff] at h
  obtain ⟨x, _, rfl⟩ := h
  rfl
theorem seeF_code {M : List Mn} {m : Mn} {f : Flt} (h : seeF M m = some f) : f.code = 91 ∨ f.code = 92 := by
  unfold seeF at h
  split at h
  · split at h
    · split at h
      · obtain rfl := Option.some.inj h; exact .inr rfl
      · cases h
    · obtain rfl := Option.some.inj h; exact .inl rfl
  · cases h
/-- what an index is -/
structure GoodM (M : List Mn) : Prop where
  may : ∀ m ∈ M, mayT m.term = true ∧ (m.sub = noB ∨ mayT m.sub = true) ∧ (m.see = 1 → mayT m.aim = true)
  has : ∀ m ∈ M, m.see = 1 → hasM M (foldS m.aim) ∧ ¬ Rch (edgeM M) (foldS m.aim) (foldS m.term)
theorem badW_none {m : Mn} : badW m = none ↔ mayT m.term = true ∧ (m.sub = noB ∨ mayT m.sub = true) ∧ (m.see = 1 → mayT m.aim = true) := by
  unfold badW
  constructor
  · intro h
    split at h
    · cases h
    · split at h
      · cases h
      · split at h
        · cases h
        · rename_i h1 h2 h3
          refine ⟨by simpa using h1, ?_, fun k => ?_⟩
          · by_cases e : m.sub = noB
            · exact .inl e
            · exact .inr (Classical.byContradiction fun k => h2 ⟨e, by simpa using k⟩)
          · exact Classical.byContradiction fun k' => h3 ⟨k, by simpa using k'⟩
  · rintro ⟨h1, h2, h3⟩
    rw [if_neg (by rw [h1]; decide), if_neg (by
      rintro ⟨a, b⟩
      rcases h2 with h2 | h2
      · exact a h2
      · rw [h2] at b; cases b), if_neg (by
      rintro ⟨a, b⟩
      rw [h3 a] at b; cases b)]
theorem goodM_of {M : List Mn} (h3 : M.findSome? termF = none) (h4 : M.findSome? (seeF M) = none) : GoodM M := by
  refine ⟨fun m hm => ?_, fun m hm h1 => ?_⟩
  · have := first_of_none h3 hm
    unfold termF at this
    rw [Option.map_eq_none_iff] at this
    exact badW_none.1 this
  · have := first_of_none h4 hm
    unfold seeF at this
    rw [if_pos h1] at this
    split at this
    · rename_i h5
      split at this
      · cases this
      · exact ⟨h5, ‹_›⟩
    · cases this
theorem GoodM.term {M : List Mn} (h : GoodM M) : M.findSome? termF = none := by
  rw [List.findSome?_eq_none_iff]
  intro m hm
  unfold termF
  rw [Option.map_eq_none_iff]
  exact badW_none.2 (h.may m hm)
theorem GoodM.see {M : List Mn} (h : GoodM M) : M.findSome? (seeF M) = none := by
  rw [List.findSome?_eq_none_iff]
  intro m hm
  unfold seeF
  split
  · rename_i h1
    rw [if_pos (h.has m hm h1).1, if_neg (h.has m hm h1).2]
  · rfl
theorem buildK_good {ns nt : Nat} {M : List Mn} {l : List En} (h : buildK ns nt M = .ok l) : GoodM M ∧ l = ixOf M ∧ (places M).length ≤ 10000 ∧ ns ≤ 64 ∧ nt ≤ 1000 := by
  unfold buildK at h
  split at h
  · cases h
  · rename_i h1
    split at h
    · cases h
    · rename_i h2
      split at h
      · cases h
      · rename_i h3
        split at h
        · cases h
        · rename_i h4
          injection h with h
          exact ⟨goodM_of h3 h4, h.symm, by omega, by omega, by omega⟩
theorem buildK_code {ns nt : Nat} {M : List Mn} {f : Flt} (h : buildK ns nt M = .error f) : ¬ f.code = 0 := by
  unfold buildK at h
  split at h
  · injection h with h; rw [← h]; decide
  · split at h
    · injection h with h; rw [← h]; decide
    · split at h
      · rename_i g h3
        injection h with h
        subst h
        obtain ⟨m, _, hm⟩ := List.exists_of_findSome?_eq_some h3
        rw [termF_code hm]; decide
      · split at h
        · rename_i g h4
          injection h with h
          subst h
          obtain ⟨m, _, hm⟩ := List.exists_of_findSome?_eq_some h4
          rcases seeF_code hm with h | h <;> rw [h] <;> decide
        · cases h
end Go.Proofs.YtohngjkedhpikaaGreatDoor
