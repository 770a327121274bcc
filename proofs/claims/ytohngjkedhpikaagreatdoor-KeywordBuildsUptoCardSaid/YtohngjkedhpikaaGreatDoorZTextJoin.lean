/-
  KEYWORD, VI, PLAIN: an index may be one: what Build answers, Check takes; over no program.
-/
import Derived.Test.YtohngjkedhpikaaGreatDoorZKwS
import Derived.Test.YtohngjkedhpikaaGreatDoorZKwCp
import Derived.Test.YtohngjkedhpikaaGreatDoorZKwQ
import Derived.Test.YtohngjkedhpikaaGreatDoorZQuiet
namespace Go.Proofs.YtohngjkedhpikaaGreatDoor

variable {M : List Mn} {n : Int} {p : Pl}
/-- the mentions' topics rise -/
structure RiseM (M : List Mn) (n : Int) : Prop where
  lo : ∀ m ∈ M, 0 ≤ m.topic ∧ m.topic < n
  up : M.Pairwise fun x y => x.topic ≤ y.topic
theorem mnT_topic {k i : Int} {t : Tk} {m : Mn} (h : m ∈ mnT k i t) : m.topic = k := (mnT_see h).1
theorem pairwise_same {k : Int} : ∀ {l : List Mn}, (∀ m ∈ l, m.topic = k) → l.Pairwise fun x y => x.topic ≤ y.topic
  | [], _ => List.Pairwise.nil
  | x :: l, h => List.Pairwise.cons (fun y hy => by rw [h x (by simp), h y (by simp [hy])]; exact Int.le_refl _) (pairwise_same fun m hm => h m (by simp [hm]))
theorem mnsT_rise (k : Nat) (i : Int) (T : List Tk) (b : Nat) (hb : b ≤ T.length) : (∀ m ∈ mnsT k i T b, (k : Int) ≤ m.topic ∧ m.topic < ((k + b : Nat) : Int)) ∧ (mnsT k i T b).Pairwise fun x y => x.topic ≤ y.topic := by
  induction b with
  | zero => exact ⟨fun m hm => by simp [mnsT] at hm, by simp [mnsT]⟩
  | succ b ih =>
    obtain ⟨h1, h2⟩ := ih (by omega)
    have ht := List.getElem?_eq_getElem (show b < T.length by omega)
    rw [mnsT_succ ht]
    refine ⟨fun m hm => ?_, ?_⟩
    · rw [List.mem_append] at hm
      rcases hm with hm | hm
      · have := h1 m hm; omega
      · rw [mnT_topic hm]; omega
    · rw [List.pairwise_append]
      refine ⟨h2, pairwise_same fun m hm => mnT_topic hm, fun x hx y hy => ?_⟩
      have := h1 x hx
      rw [mnT_topic hy]; omega
theorem mns_rise (S : List (List Tk)) (a : Nat) (ha : a ≤ S.length) : RiseM (mns S a) (totK S a) := by
  induction a with
  | zero => exact ⟨fun m hm => by simp [mns] at hm, by simp [mns]⟩
  | succ a ih =>
    obtain ⟨h1, h2⟩ := ih (by omega)
    have hT := List.getElem?_eq_getElem (show a < S.length by omega)
    obtain ⟨k1, k2⟩ := mnsT_rise (totK S a) a S[a] S[a].length (Nat.le_refl _)
    rw [mns_succ hT, totK_succ hT]
    refine ⟨fun m hm => ?_, ?_⟩
    · rw [List.mem_append] at hm
      rcases hm with hm | hm
      · have := h1 m hm; omega
      · have := k1 m hm; omega
    · rw [List.pairwise_append]
      refine ⟨h2, k2, fun x hx y hy => ?_⟩
      have := h1 x hx
      have := k1 y hy
      omega
theorem topicsOf_rise (h : M.Pairwise fun x y => x.topic ≤ y.topic) (p : Pl) : (topicsOf M p).Pairwise (· < ·) := by
  induction M using snocI with
  | h0 => simp [topicsOf]
  | h1 M m ih =>
    rw [List.pairwise_append] at h
    have ih' := ih h.1
    rw [topicsOf_snoc, topStep]
    split
    · rename_i hc
      rw [List.pairwise_append]
      refine ⟨ih', by simp, fun x hx y hy => ?_⟩
      rw [List.mem_singleton] at hy
      subst hy
      obtain ⟨z, hz, _, _, rfl⟩ := topicsOf_mem.1 hx
      have hle := h.2.2 z hz m (by simp)
      rcases Int.lt_or_eq_of_le hle with e | e
      · exact e
      · exfalso
        refine hc.2.2 ?_
        obtain ⟨j, hj⟩ := List.getElem?_of_mem hx
        have hjl := (List.getElem?_eq_some_iff.1 hj).1
        rw [List.getLast?_eq_getElem?]
        by_cases k : j = (topicsOf M p).length - 1
        · rw [← k, hj, e]
        · exfalso
          have hl : (topicsOf M p).length - 1 < (topicsOf M p).length := by omega
          have := List.pairwise_iff_getElem.1 ih' j ((topicsOf M p).length - 1) hjl hl (by omega)
          rw [(List.getElem?_eq_some_iff.1 hj).2] at this
          obtain ⟨w, hw, _, _, hw2⟩ := topicsOf_mem.1 (List.getElem_mem hl)
          have := h.2.2 w hw m (by simp)
          omega
    · exact ih'
theorem sees_oneP {M : List Mn} {p : Pl} : ∀ i j, i ∈ seesOf M p → j ∈ seesOf M p → cmpS i j = 0 → i = j := by
  intro i j hi hj h
  have hf := compareT_zero.1 h
  have hn := seesOf_folds (M := M) (p := p)
  obtain ⟨a, ha⟩ := List.getElem?_of_mem hi
  obtain ⟨b, hb⟩ := List.getElem?_of_mem hj
  have ha' : ((seesOf M p).map foldS)[a]? = some (foldS i) := by rw [List.getElem?_map, ha]; rfl
  have hb' : ((seesOf M p).map foldS)[b]? = some (foldS j) := by rw [List.getElem?_map, hb]; rfl
  have hab : a = b := by
    have la := (List.getElem?_eq_some_iff.1 ha').1
    have lb := (List.getElem?_eq_some_iff.1 hb').1
    refine (List.getElem_inj (h₀ := la) (h₁ := lb) hn).1 ?_
    rw [(List.getElem?_eq_some_iff.1 ha').2, (List.getElem?_eq_some_iff.1 hb').2, hf]
  subst hab
  exact Option.some.inj (ha.symm.trans hb)
theorem nodup_of_map {α β : Type} (f : α → β) {l : List α} (h : (l.map f).Nodup) : l.Nodup := by
  induction l with
  | nil => simp
  | cons x l ih =>
    rw [List.map_cons, List.nodup_cons] at h
    rw [List.nodup_cons]
    exact ⟨fun k => h.1 (List.mem_map.2 ⟨x, k, rfl⟩), ih h.2⟩
theorem ris_of {l : List Int} (h : l.Pairwise (· < ·)) (hb : ∀ x ∈ l, 0 ≤ x ∧ x < n) : risK l n := fun i x hx => by
  refine ⟨(hb x (List.mem_of_getElem? hx)).1, (hb x (List.mem_of_getElem? hx)).2, fun j y e hy => ?_⟩
  have h1 := List.getElem?_eq_some_iff.1 hx
  have h2 := List.getElem?_eq_some_iff.1 hy
  have := List.pairwise_iff_getElem.1 h j i h2.1 h1.1 (by omega)
  rw [h1.2, h2.2] at this
  exact this
theorem ent_term (hp : p ∈ places M) : foldS (entOf M p).term = p.1 ∧ (∃ m ∈ M, m.term = (entOf M p).term) ∧ termO M p.1 = some (entOf M p).term := by
  obtain ⟨x, hx, hxp⟩ := mem_places.1 hp
  have h1 : (termO M p.1).isSome = true := termO_some.2 ⟨x, hx, by rw [← hxp]; rfl⟩
  obtain ⟨t, ht⟩ := Option.isSome_iff_exists.1 h1
  have e : (entOf M p).term = t := by show (termO M p.1).getD noB = t; rw [ht]; rfl
  rw [e]
  exact ⟨(termO_fold ht).1, (termO_fold ht).2, ht⟩
theorem ent_sub (hp : p ∈ places M) : foldS (entOf M p).sub = p.2 ∧ ∃ m ∈ M, m.pl = p ∧ m.sub = (entOf M p).sub := by
  obtain ⟨x, hx, hxp⟩ := mem_places.1 hp
  have h1 : (subO M p).isSome = true := subO_some.2 ⟨x, hx, hxp⟩
  obtain ⟨t, ht⟩ := Option.isSome_iff_exists.1 h1
  have e : (entOf M p).sub = t := by show (subO M p).getD noB = t; rw [ht]; rfl
  rw [e]
  exact subO_fold ht
theorem ix_pl (hp : p ∈ places M) : plE (ixE M p) = p := Prod.ext (ent_term hp).1 (ent_sub hp).1
theorem ix_mem {e : En} : e ∈ ixOf M ↔ ∃ p ∈ places M, e = ixE M p := by
  unfold ixOf
  rw [List.mem_map]
  constructor
  · rintro ⟨p, h, rfl⟩; exact ⟨p, srt_mem.1 h, rfl⟩
  · rintro ⟨p, h, rfl⟩; exact ⟨p, srt_mem.2 h, rfl⟩
theorem ix_sees {s : ByteArray} (h : s ∈ (ixE M p).sees) : ∃ m ∈ M, m.pl = p ∧ m.see = 1 ∧ m.aim = s := seesOf_mem (srt_mem.1 h)
theorem edge_sub {a b : ByteArray} (h : edgeL (ixOf M) a b) : edgeM M a b := by
  obtain ⟨e, he, h1, h2, s, hs, rfl⟩ := h
  obtain ⟨p, hp, rfl⟩ := ix_mem.1 he
  obtain ⟨m, hm, k1, k2, rfl⟩ := ix_sees hs
  refine ⟨m, hm, k2, ?_, rfl⟩
  rw [← h2]
  show foldS m.term = foldS (entOf M p).term
  rw [(ent_term hp).1, ← k1]; rfl
theorem edge_sup (hsee : ∀ m ∈ M, m.see = 0 ∨ (m.see = 1 ∧ m.sub = noB)) (hg : GoodM M) {a b : ByteArray} (h : edgeM M a b) : edgeL (ixOf M) a b := by
  obtain ⟨m, hm, h1, rfl, rfl⟩ := h
  have hp : m.pl ∈ places M := mem_places.2 ⟨m, hm, rfl⟩
  have hms : m.sub = noB := by
    rcases hsee m hm with h | h
    · rw [h] at h1; exact absurd h1 (by decide)
    · exact h.2
  obtain ⟨s, hs, hse⟩ := seesOf_has hm rfl h1
  obtain ⟨k1, z, hz, hzp, hzs⟩ := ent_sub hp
  refine ⟨ixE M m.pl, ix_mem.2 ⟨_, hp, rfl⟩, ?_, (ent_term hp).1, s, srt_mem.2 hs, hse⟩
  show (entOf M m.pl).sub = noB
  have hn : foldS (entOf M m.pl).sub = noB := by rw [k1]; unfold Mn.pl; rw [hms]; exact foldS_nil
  rcases (hg.may z hz).2.1 with h | h
  · rw [← hzs]; exact h
  · rw [hzs] at h; exact absurd hn (mayT_ok h).2.2
theorem ix_alone (hg : GoodM M) (hr : RiseM M n) (hsee : ∀ m ∈ M, m.see = 0 ∨ (m.see = 1 ∧ m.sub = noB)) (hp : p ∈ places M) : aloneK (ixE M p) n = 0 := by
  obtain ⟨_, ⟨m1, hm1, ht1⟩, _⟩ := ent_term hp
  obtain ⟨ks, m2, hm2, hp2, hs2⟩ := ent_sub hp
  unfold aloneK
  rw [if_neg, if_neg, if_neg, if_neg, if_neg]
  · intro h
    refine h fun i x y hx hy => ?_
    have hst := srt_strict cmpS_ord (l := seesOf M p) (by
      have := seesOf_folds (M := M) (p := p)
      exact nodup_of_map _ this) (fun i j hi hj => sees_oneP i j hi hj)
    have hx' : (srt cmpS (seesOf M p))[i]? = some x := hx
    have hy' : (srt cmpS (seesOf M p))[i + 1]? = some y := hy
    have h1 := List.getElem?_eq_some_iff.1 hx'
    have h2 := List.getElem?_eq_some_iff.1 hy'
    have := List.pairwise_iff_getElem.1 hst i (i + 1) h1.1 h2.1 (by omega)
    rw [h1.2, h2.2] at this
    exact this
  · rintro (h | ⟨h1, h2⟩)
    · obtain ⟨x, hx, hxp⟩ := mem_places.1 hp
      have ht : (topicsOf M p).length = 0 := by have : (ixE M p).topics.length = (topicsOf M p).length := rfl; omega
      have hs : (seesOf M p).length = 0 := by have : (ixE M p).sees.length = (seesOf M p).length := srt_length _; omega
      by_cases k : x.see = 1
      · obtain ⟨s, hs', _⟩ := seesOf_has hx hxp k
        have := List.length_pos_of_mem hs'
        omega
      · have := List.length_pos_of_mem (topicsOf_mem.2 ⟨x, hx, hxp, k, rfl⟩)
        omega
    · obtain ⟨s, hs⟩ := List.exists_mem_of_ne_nil _ h2
      obtain ⟨m, hm, k1, k2, _⟩ := ix_sees hs
      have hms : m.sub = noB := by
        rcases hsee m hm with h | h
        · rw [h] at k2; exact absurd k2 (by decide)
        · exact h.2
      refine h1 ?_
      show (entOf M p).sub = noB
      have hn : foldS (entOf M p).sub = noB := by rw [ks, ← k1]; unfold Mn.pl; rw [hms]; exact foldS_nil
      rcases (hg.may m2 hm2).2.1 with h | h
      · rw [← hs2]; exact h
      · rw [hs2] at h; exact absurd hn (mayT_ok h).2.2
  · intro h
    refine h (ris_of (topicsOf_rise hr.up p) fun x hx => ?_)
    obtain ⟨m, hm, _, _, rfl⟩ := topicsOf_mem.1 hx
    exact hr.lo m hm
  · intro h
    refine h fun s hs => ?_
    obtain ⟨m, hm, _, k2, rfl⟩ := ix_sees hs
    exact (hg.may m hm).2.2 k2
  · intro h
    refine h ⟨?_, ?_⟩
    · show mayT (entOf M p).term = true
      rw [← ht1]; exact (hg.may m1 hm1).1
    · show (entOf M p).sub = noB ∨ mayT (entOf M p).sub = true
      rw [← hs2]; exact (hg.may m2 hm2).2.1
theorem ix_at {i : Nat} {e : En} (h : (ixOf M)[i]? = some e) : ∃ p, (srt cmpP (places M))[i]? = some p ∧ p ∈ places M ∧ e = ixE M p := by
  unfold ixOf at h
  rw [List.getElem?_map, Option.map_eq_some_iff] at h
  obtain ⟨p, h1, rfl⟩ := h
  exact ⟨p, h1, srt_mem.1 (List.mem_of_getElem? h1), rfl⟩
theorem places_strict (M : List Mn) : (srt cmpP (places M)).Pairwise fun a b => cmpP a b < 0 := srt_strict cmpP_ord (places_nodup M) fun _ _ _ _ h => cmpP_zero.1 h
theorem ixOf_length (M : List Mn) : (ixOf M).length = (places M).length := by unfold ixOf; rw [List.length_map, srt_length]
/-- what Build answers, Check takes -/
theorem check_ix (hg : GoodM M) (hr : RiseM M n) (hsee : ∀ m ∈ M, m.see = 0 ∨ (m.see = 1 ∧ m.sub = noB)) (hl : (places M).length ≤ 10000) : CheckK (ixOf M) n 0 0 := by
  refine CheckK_ok (by rw [ixOf_length]; omega) (fun j o hj => ?_) (fun j o m u hj hu => ?_)
  · obtain ⟨p, hp, hpM, rfl⟩ := ix_at hj
    have ha := ix_alone hg hr hsee hpM
    cases j with
    | zero => exact oneK_first ha
    | succ j =>
      have hjl := (List.getElem?_eq_some_iff.1 hp).1
      obtain ⟨q, hq⟩ : ∃ q, (srt cmpP (places M))[j]? = some q := ⟨_, List.getElem?_eq_getElem (by omega)⟩
      have hqM : q ∈ places M := srt_mem.1 (List.mem_of_getElem? hq)
      refine oneK_pair ha (o := ixE M q) (by unfold ixOf; rw [List.getElem?_map, hq]; rfl) ?_
      have h1 := List.getElem?_eq_some_iff.1 hq
      have h2 := List.getElem?_eq_some_iff.1 hp
      have hlt := List.pairwise_iff_getElem.1 (places_strict M) j (j + 1) h1.1 h2.1 (by omega)
      rw [h1.2, h2.2] at hlt
      refine ⟨by rw [ix_pl hqM, ix_pl hpM]; exact hlt, ?_⟩
      rintro ⟨e1, e2⟩
      refine e2 ?_
      have t1 := ent_term hqM
      have t2 := ent_term hpM
      have e3 : q.1 = p.1 := by rw [← t1.1, ← t2.1]; exact e1
      have e4 := t1.2.2
      rw [e3, t2.2.2] at e4
      exact (Option.some.inj e4).symm
  · obtain ⟨p, hp, hpM, rfl⟩ := ix_at hj
    obtain ⟨x, hx, k1, k2, rfl⟩ := ix_sees (List.mem_of_getElem? hu)
    obtain ⟨⟨y, hy, hyt⟩, hnr⟩ := hg.has x hx k2
    have hyp : y.pl ∈ places M := mem_places.2 ⟨y, hy, rfl⟩
    refine seeK_ok ⟨ixE M y.pl, ix_mem.2 ⟨_, hyp, rfl⟩, by rw [show foldS (ixE M y.pl).term = y.pl.1 from (ent_term hyp).1]; exact hyt⟩ fun hR => ?_
    refine hnr ?_
    have := hR.mono fun a b => edge_sub
    rw [show foldS (ixE M p).term = p.1 from (ent_term hpM).1, ← k1] at this
    exact this
/-! ### how much an index has -/
theorem flat_le {α β : Type} {f : α → List β} {k : Nat} : ∀ {l : List α}, (∀ x ∈ l, (f x).length ≤ k) → (l.flatMap f).length ≤ l.length * k
  | [], _ => by simp
  | x :: l, h => by
    rw [List.flatMap_cons, List.length_append, List.length_cons, Nat.add_mul, Nat.one_mul, Nat.add_comm]
    exact Nat.add_le_add (flat_le fun y hy => h y (by simp [hy])) (h x (by simp))
theorem topicsOf_le (M : List Mn) (p : Pl) : (topicsOf M p).length ≤ M.length := by
  induction M using snocI with
  | h0 => simp [topicsOf]
  | h1 M m ih => rw [topicsOf_snoc, topStep]; split <;> simp <;> omega
theorem seesOf_le (M : List Mn) (p : Pl) : (seesOf M p).length ≤ M.length := by
  induction M using snocI with
  | h0 => simp [seesOf]
  | h1 M m ih => rw [seesOf_snoc, seeStep]; split <;> simp <;> omega
theorem ix_sees_len (hM : M.length ≤ 1000) : ((ixOf M).flatMap En.sees).length ≤ 1000000 := by
  have h := flat_le (f := En.sees) (l := ixOf M) (k := 1000) fun e he => by
    obtain ⟨p, hp, rfl⟩ := ix_mem.1 he
    have : (ixE M p).sees.length = (seesOf M p).length := srt_length _
    have := seesOf_le M p
    omega
  have := ixOf_length M
  have := places_length M
  have : (ixOf M).length * 1000 ≤ 1000 * 1000 := Nat.mul_le_mul_right 1000 (by omega)
  omega
theorem ix_tops_len (hM : M.length ≤ 1000) : ((ixOf M).flatMap En.topics).length ≤ 1000000 := by
  have h := flat_le (f := En.topics) (l := ixOf M) (k := 1000) fun e he => by
    obtain ⟨p, hp, rfl⟩ := ix_mem.1 he
    have : (ixE M p).topics.length = (topicsOf M p).length := rfl
    have := topicsOf_le M p
    omega
  have := ixOf_length M
  have := places_length M
  have : (ixOf M).length * 1000 ≤ 1000 * 1000 := Nat.mul_le_mul_right 1000 (by omega)
  omega
theorem ix_small (hM : M.length ≤ 1000) (hsz : ∀ m ∈ M, m.term.size ≤ 4194304 ∧ m.sub.size ≤ 4194304 ∧ m.aim.size ≤ 4194304) (hfs : ∀ m ∈ M, (foldS m.term).size ≤ 4194304 ∧ (foldS m.sub).size ≤ 4194304 ∧ (foldS m.aim).size ≤ 4194304) :
    ∀ e ∈ ixOf M, e.term.size ≤ 4194304 ∧ e.sub.size ≤ 4194304 ∧ (foldS e.term).size ≤ 4194304 ∧ (foldS e.sub).size ≤ 4194304 ∧ e.topics.length ≤ 1000000 ∧ ∀ x ∈ e.sees, x.size ≤ 4194304 ∧ (foldS x).size ≤ 4194304 := by
  intro e he
  obtain ⟨p, hp, rfl⟩ := ix_mem.1 he
  obtain ⟨_, ⟨m1, hm1, ht1⟩, _⟩ := ent_term hp
  obtain ⟨_, m2, hm2, _, hs2⟩ := ent_sub hp
  refine ⟨?_, ?_, ?_, ?_, ?_, fun x hx => ?_⟩
  · show (entOf M p).term.size ≤ _
    rw [← ht1]; exact (hsz m1 hm1).1
  · show (entOf M p).sub.size ≤ _
    rw [← hs2]; exact (hsz m2 hm2).2.1
  · show (foldS (entOf M p).term).size ≤ _
    rw [← ht1]; exact (hfs m1 hm1).1
  · show (foldS (entOf M p).sub).size ≤ _
    rw [← hs2]; exact (hfs m2 hm2).2.1
  · show (topicsOf M p).length ≤ _
    have := topicsOf_le M p
    omega
  · obtain ⟨m, hm, _, _, rfl⟩ := ix_sees hx
    exact ⟨(hsz m hm).2.2, (hfs m hm).2.2⟩
end Go.Proofs.YtohngjkedhpikaaGreatDoor
/-
  TEXT, JOINED: the characters of two texts, one behind the other, over no program.
-/

namespace Go.Proofs.YtohngjkedhpikaaGreatDoor
open Go.RowKit

theorem getD_app1 {x b : List UInt8} {i : Nat} (h : i < x.length) : (x ++ b).getD i 0 = x.getD i 0 := by
  rw [List.getD_eq_getElem?_getD, List.getD_eq_getElem?_getD, List.getElem?_append_left h]
theorem getD_app2 {x b : List UInt8} {i : Nat} (h : x.length ≤ i) : (x ++ b).getD i 0 = b.getD (i - x.length) 0 := by
  rw [List.getD_eq_getElem?_getD, List.getD_eq_getElem?_getD, List.getElem?_append_right h]
theorem getD_over {x : List UInt8} {i : Nat} (h : x.length ≤ i) : x.getD i 0 = 0 := by
  rw [List.getD_eq_getElem?_getD, List.getElem?_eq_none h]; rfl
set_option maxRecDepth 100000 in
set_option maxHeartbeats 4000000 in
theorem decodeN_cut (n m b0 b1 b2 b3 c1 c2 c3 : Nat) (hn : 1 ≤ n) (hm : n ≤ m) (e1 : 1 < n → c1 = b1) (e2 : 2 < n → c2 = b2) (e3 : 3 < n → c3 = b3) (h : (Lib.decodeN m b0 c1 c2 c3).2 ≤ n) :
    Lib.decodeN m b0 c1 c2 c3 = Lib.decodeN n b0 b1 b2 b3 := by
  by_cases n1 : n = 1
  · subst n1
    unfold Lib.decodeN at h ⊢
    repeat' split at h
    all_goals first
      | (exfalso; simp only at h; omega)
      | (simp only at h
         repeat' split
         all_goals first | rfl | (exfalso; omega))
  · obtain rfl := e1 (by omega)
    by_cases n2 : n = 2
    · subst n2
      unfold Lib.decodeN at h ⊢
      repeat' split at h
      all_goals first
        | (exfalso; simp only at h; omega)
        | (simp only at h
           repeat' split
           all_goals first | rfl | (exfalso; omega))
    · obtain rfl := e2 (by omega)
      by_cases n3 : n = 3
      · subst n3
        unfold Lib.decodeN at h ⊢
        repeat' split at h
        all_goals first
          | (exfalso; simp only at h; omega)
          | (simp only at h
             repeat' split
             all_goals first | rfl | (exfalso; omega))
      · obtain rfl := e3 (by omega)
        unfold Lib.decodeN at h ⊢
        repeat' split at h
        all_goals first
          | (exfalso; simp only at h; omega)
          | (simp only at h
             repeat' split
             all_goals first | rfl | (exfalso; omega))
/-- a character that ends within a text's first part is one of that part -/
theorem decodeL_cut {x b : List UInt8} (hx : x ≠ []) (h : (Lib.decodeL (x ++ b)).2 ≤ x.length) : Lib.decodeL (x ++ b) = Lib.decodeL x := by
  have hl : 0 < x.length := List.length_pos_iff.2 hx
  rw [Lib.decodeL_N] at h ⊢
  rw [Lib.decodeL_N x]
  rw [getD_app1 hl] at h ⊢
  exact decodeN_cut x.length (x ++ b).length _ _ _ _ _ _ _ (by omega) (by rw [List.length_append]; omega) (fun k => congrArg UInt8.toNat (getD_app1 k)) (fun k => congrArg UInt8.toNat (getD_app1 k)) (fun k => congrArg UInt8.toNat (getD_app1 k)) h
set_option maxRecDepth 100000 in
set_option maxHeartbeats 4000000 in
theorem decodeN_lead (n m b0 b1 b2 b3 c1 c2 c3 : Nat) (hn : 1 ≤ n) (hm : n < m) (e1 : 1 < n → c1 = b1) (e2 : 2 < n → c2 = b2) (e3 : 3 < n → c3 = b3) (h1 : n = 1 → c1 / 64 ≠ 2) (h2 : n = 2 → c2 / 64 ≠ 2) (h3 : n = 3 → c3 / 64 ≠ 2) :
    Lib.decodeN m b0 c1 c2 c3 = Lib.decodeN n b0 b1 b2 b3 := by
  by_cases n1 : n = 1
  · subst n1
    have := h1 rfl
    unfold Lib.decodeN
    repeat' split
    all_goals first | rfl | (exfalso; omega)
  · obtain rfl := e1 (by omega)
    by_cases n2 : n = 2
    · subst n2
      have := h2 rfl
      unfold Lib.decodeN
      repeat' split
      all_goals first | rfl | (exfalso; omega)
    · obtain rfl := e2 (by omega)
      by_cases n3 : n = 3
      · subst n3
        have := h3 rfl
        unfold Lib.decodeN
        repeat' split
        all_goals first | rfl | (exfalso; omega)
      · obtain rfl := e3 (by omega)
        unfold Lib.decodeN
        repeat' split
        all_goals first | rfl | (exfalso; omega)
/-- what a text may begin with that goes on no character ahead -/
def leads (b : List UInt8) : Prop := (b.getD 0 0).toNat / 64 ≠ 2
theorem leads_nil : leads [] := by unfold leads; decide
theorem decodeL_lead {x b : List UInt8} (hx : x ≠ []) (hb : leads b) : Lib.decodeL (x ++ b) = Lib.decodeL x := by
  by_cases hbn : b = []
  · rw [hbn, List.append_nil]
  have hl : 0 < x.length := List.length_pos_iff.2 hx
  have hl2 : 0 < b.length := List.length_pos_iff.2 hbn
  rw [Lib.decodeL_N, Lib.decodeL_N x, getD_app1 hl]
  refine decodeN_lead x.length (x ++ b).length _ _ _ _ _ _ _ (by omega) (by rw [List.length_append]; omega) (fun k => congrArg UInt8.toNat (getD_app1 k)) (fun k => congrArg UInt8.toNat (getD_app1 k)) (fun k => congrArg UInt8.toNat (getD_app1 k)) (fun k => ?_) (fun k => ?_) (fun k => ?_)
  all_goals (rw [getD_app2 (by omega), k]; exact hb)
theorem drop_shift (a b : List UInt8) (q : Nat) : (a ++ b).drop (a.length + q) = b.drop q := by
  rw [List.drop_append, List.drop_eq_nil_of_le (by omega), List.nil_append, Nat.add_sub_cancel_left]
theorem chR_shift (a b : List UInt8) (q : Nat) : chR (a ++ b) (a.length + q) = chR b q := by unfold chR; rw [drop_shift]
theorem chN_shift (a b : List UInt8) (q : Nat) : chN (a ++ b) (a.length + q) = chN b q := by unfold chN; rw [drop_shift]
theorem badC_shift (a b : List UInt8) (q : Nat) : badC (a ++ b) (a.length + q) = badC b q := by unfold badC; rw [chR_shift, chN_shift]
theorem drop_ne {a : List UInt8} {p : Nat} (h : p < a.length) : a.drop p ≠ [] := by
  intro e
  have := congrArg List.length e
  simp at this; omega
theorem ch_cut {a b : List UInt8} {p : Nat} (h : p < a.length) (h' : p + chN (a ++ b) p ≤ a.length) : chR (a ++ b) p = chR a p ∧ chN (a ++ b) p = chN a p := by
  have e : (a ++ b).drop p = a.drop p ++ b := List.drop_append_of_le_length (by omega)
  unfold chN at h'
  unfold chR chN
  rw [e] at h' ⊢
  rw [decodeL_cut (drop_ne h) (by rw [List.length_drop]; omega)]
  exact ⟨rfl, rfl⟩
theorem ch_lead {a b : List UInt8} {p : Nat} (h : p < a.length) (hb : leads b) : chR (a ++ b) p = chR a p ∧ chN (a ++ b) p = chN a p := by
  have e : (a ++ b).drop p = a.drop p ++ b := List.drop_append_of_le_length (by omega)
  unfold chR chN
  rw [e, decodeL_lead (drop_ne h) hb]
  exact ⟨rfl, rfl⟩
end Go.Proofs.YtohngjkedhpikaaGreatDoor
