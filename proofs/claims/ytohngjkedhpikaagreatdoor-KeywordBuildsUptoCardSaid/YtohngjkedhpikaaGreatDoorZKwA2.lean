/-
  KEYWORD, A2, PLAIN: every key of every topic is in the index, and no other (KeywordAll's law); over no program.
-/
import Derived.Test.YtohngjkedhpikaaGreatDoorZTextJoin
namespace Go.Proofs.YtohngjkedhpikaaGreatDoor

/-- how many of a row are below n -/
def lowN (r : List Int) (n : Int) : Nat := (r.filter fun x => decide (x < n)).length
theorem lowN_zero {r : List Int} {n : Int} (h : ∀ x ∈ r, n ≤ x) : lowN r n = 0 := by
  unfold lowN
  rw [List.length_eq_zero_iff, List.filter_eq_nil_iff]
  intro x hx
  have := h x hx
  simp; omega
theorem lowN_all {r : List Int} {n : Int} (h : ∀ x ∈ r, x < n) : lowN r n = r.length := by
  unfold lowN
  rw [List.filter_eq_self.2]
  intro x hx
  simpa using h x hx
theorem lowN_step : ∀ {r : List Int} {n : Int}, r.Pairwise (· < ·) → lowN r (n + 1) = lowN r n + if n ∈ r then 1 else 0
  | [], n, _ => by simp [lowN]
  | x :: r, n, h => by
    obtain ⟨h1, h2⟩ := List.pairwise_cons.1 h
    have ih := lowN_step (n := n) h2
    by_cases hx : x < n
    · have e1 : lowN (x :: r) (n + 1) = lowN r (n + 1) + 1 := by unfold lowN; rw [List.filter_cons_of_pos (by simp; omega)]; rfl
      have e2 : lowN (x :: r) n = lowN r n + 1 := by unfold lowN; rw [List.filter_cons_of_pos (by simpa using hx)]; rfl
      have e3 : n ∈ x :: r ↔ n ∈ r := by rw [List.mem_cons]; exact ⟨fun h => h.resolve_left (by omega), .inr⟩
      rw [e1, e2, ih]
      simp only [e3]
      omega
    · have e2 : lowN (x :: r) n = 0 := lowN_zero fun y hy => by
        rcases List.mem_cons.1 hy with rfl | hy
        · omega
        · have := h1 y hy; omega
      by_cases hxn : x = n
      · subst hxn
        have e1 : lowN (x :: r) (x + 1) = lowN r (x + 1) + 1 := by unfold lowN; rw [List.filter_cons_of_pos (by simp; omega)]; rfl
        have e4 : lowN r (x + 1) = 0 := lowN_zero fun y hy => by have := h1 y hy; omega
        rw [e1, e2, e4, if_pos (by simp)]
      · have e1 : lowN (x :: r) (n + 1) = 0 := lowN_zero fun y hy => by
          rcases List.mem_cons.1 hy with rfl | hy
          · omega
          · have := h1 y hy; omega
        rw [e1, e2, if_neg]
        intro hm
        rcases List.mem_cons.1 hm with h | h
        · exact hxn h.symm
        · have := h1 n h; omega
/-- how many numbers below n the first i entries have -/
def allN (l : List En) (n : Int) : Nat → Nat
  | 0 => 0
  | i + 1 => allN l n i + ((l[i]?.map fun e => lowN e.topics n).getD 0)
/-- how many of the first i entries have n -/
def hasN (l : List En) (n : Int) : Nat → Nat
  | 0 => 0
  | i + 1 => hasN l n i + ((l[i]?.map fun e => if n ∈ e.topics then 1 else 0).getD 0)
/-- how many numbers the first i entries have -/
def lenN (l : List En) : Nat → Nat
  | 0 => 0
  | i + 1 => lenN l i + ((l[i]?.map fun e => e.topics.length).getD 0)
theorem hasN_succ {l : List En} {n : Int} {i : Nat} {e : En} (h : l[i]? = some e) : hasN l n (i + 1) = hasN l n i + if n ∈ e.topics then 1 else 0 := by rw [hasN, h]; rfl
theorem lenN_succ {l : List En} {i : Nat} {e : En} (h : l[i]? = some e) : lenN l (i + 1) = lenN l i + e.topics.length := by rw [lenN, h]; rfl
theorem lowN_le (r : List Int) (n : Int) : lowN r n ≤ r.length := List.length_filter_le _ _
theorem allN_le (l : List En) (n : Int) (i : Nat) : allN l n i ≤ lenN l i := by
  induction i with
  | zero => exact Nat.le_refl _
  | succ i ih =>
    rw [allN, lenN]
    cases he : l[i]? with
    | none => simpa using ih
    | some e =>
      simp only [Option.map_some, Option.getD_some]
      have := lowN_le e.topics n
      omega
theorem hasN_le (l : List En) (n : Int) (i : Nat) : hasN l n i ≤ i := by
  induction i with
  | zero => exact Nat.le_refl _
  | succ i ih =>
    rw [hasN]
    cases he : l[i]? with
    | none => simp; omega
    | some e =>
      simp only [Option.map_some, Option.getD_some]
      split <;> omega
theorem allN_step {l : List En} {n : Int} (h : ∀ e ∈ l, e.topics.Pairwise (· < ·)) (i : Nat) : allN l (n + 1) i = allN l n i + hasN l n i := by
  induction i with
  | zero => rfl
  | succ i ih =>
    rw [allN, allN, hasN, ih]
    cases he : l[i]? with
    | none => simp
    | some e =>
      simp only [Option.map_some, Option.getD_some]
      rw [lowN_step (h e (List.mem_of_getElem? he))]
      omega
theorem allN_zero {l : List En} {n : Int} (h : ∀ e ∈ l, ∀ x ∈ e.topics, n ≤ x) (i : Nat) : allN l n i = 0 := by
  induction i with
  | zero => rfl
  | succ i ih =>
    rw [allN, ih]
    cases he : l[i]? with
    | none => simp
    | some e =>
      simp only [Option.map_some, Option.getD_some]
      rw [lowN_zero (h e (List.mem_of_getElem? he))]
theorem allN_all {l : List En} {n : Int} (h : ∀ e ∈ l, ∀ x ∈ e.topics, x < n) (i : Nat) : allN l n i = lenN l i := by
  induction i with
  | zero => rfl
  | succ i ih =>
    rw [allN, lenN, ih]
    cases he : l[i]? with
    | none => simp
    | some e =>
      simp only [Option.map_some, Option.getD_some]
      rw [lowN_all (h e (List.mem_of_getElem? he))]
theorem lenN_flat (l : List En) (i : Nat) : lenN l i ≤ (l.flatMap En.topics).length := by
  have : ∀ i, i ≤ l.length → lenN l i = ((l.take i).flatMap En.topics).length := by
    intro i
    induction i with
    | zero => intro _; simp [lenN]
    | succ i ih =>
      intro hi
      obtain ⟨e, he⟩ : ∃ e, l[i]? = some e := ⟨_, List.getElem?_eq_getElem (by omega)⟩
      rw [lenN_succ he, ih (by omega), List.take_add_one, he]
      simp
  have h2 : ∀ i, l.length ≤ i → lenN l i = lenN l l.length := by
    intro i hi
    induction i with
    | zero => obtain h : l.length = 0 := by omega
              rw [h]
    | succ i ih =>
      by_cases e : l.length = i + 1
      · rw [e]
      · rw [lenN, List.getElem?_eq_none (by omega), ih (by omega)]
        simp
  by_cases hi : i ≤ l.length
  · rw [this i hi]
    conv => rhs; rw [← List.take_append_drop i l, List.flatMap_append, List.length_append]
    omega
  · rw [h2 i (by omega), this _ (Nat.le_refl _), List.take_length]
    exact Nat.le_refl _
/-! ### topics' numbers -/
variable {S : List (List Tk)}
theorem num_inj {a b a' b' : Nat} {T T' : List Tk} (h1 : S[a]? = some T) (h2 : b < T.length) (h3 : S[a']? = some T') (h4 : b' < T'.length) (h : totK S a + b = totK S a' + b') : a = a' ∧ b = b' := by
  have e1 := totK_succ h1
  have e2 := totK_succ h3
  rcases Nat.lt_trichotomy a a' with c | c | c
  · have := totK_mono S (show a + 1 ≤ a' by omega); omega
  · subst c; exact ⟨rfl, by omega⟩
  · have := totK_mono S (show a' + 1 ≤ a by omega); omega
/-- a topic's number is in a place's row where the topic has a key of that place -/
theorem num_key {a b : Nat} {T : List Tk} {t : Tk} (h1 : S[a]? = some T) (h2 : T[b]? = some t) (p : Pl) : ((totK S a + b : Nat) : Int) ∈ topicsOf (mns S S.length) p ↔ ∃ k ∈ t.keys, (foldS k.term, foldS k.sub) = p := by
  rw [topicsOf_mem]
  constructor
  · rintro ⟨m, hm, hp, hs, ht⟩
    obtain ⟨a', b', T', t', _, h3, h4, h5⟩ := mem_mns.1 hm
    obtain ⟨h6, _, h7⟩ := mnT_see h5
    rw [ht] at h6
    obtain ⟨rfl, rfl⟩ := num_inj h1 (List.getElem?_eq_some_iff.1 h2).1 h3 (List.getElem?_eq_some_iff.1 h4).1 (by omega)
    obtain rfl : T = T' := Option.some.inj (h1.symm.trans h3)
    obtain rfl : t = t' := Option.some.inj (h2.symm.trans h4)
    rcases h7 with ⟨_, _, k, hk, rfl⟩ | ⟨h8, _⟩
    · exact ⟨k, hk, hp⟩
    · exact absurd h8 hs
  · rintro ⟨k, hk, hp⟩
    refine ⟨mnK ((totK S a + b : Nat) : Int) a k, mem_mns.2 ⟨a, b, T, t, (List.getElem?_eq_some_iff.1 h1).1, h1, h2, ?_⟩, hp, by show ¬ (0 : Int) = 1; omega, rfl⟩
    rw [mnT, List.mem_append, List.mem_map]
    exact .inl ⟨k, hk, rfl⟩
theorem ixE_topics (M : List Mn) (p : Pl) : (ixE M p).topics = topicsOf M p := rfl
/-- an entry has a topic's number where the topic has a key of its place -/
theorem ent_num {a b : Nat} {T : List Tk} {t : Tk} (h1 : S[a]? = some T) (h2 : T[b]? = some t) {e : En} (he : e ∈ ixOf (mns S S.length)) : ((totK S a + b : Nat) : Int) ∈ e.topics ↔ ∃ k ∈ t.keys, foldS k.term = foldS e.term ∧ foldS k.sub = foldS e.sub := by
  obtain ⟨p, hp, rfl⟩ := ix_mem.1 he
  rw [ixE_topics, num_key h1 h2]
  have := ix_pl hp
  unfold plE at this
  constructor
  · rintro ⟨k, hk, e⟩
    rw [← this] at e
    exact ⟨k, hk, congrArg Prod.fst e, congrArg Prod.snd e⟩
  · rintro ⟨k, hk, e1, e2⟩
    exact ⟨k, hk, by rw [← this, e1, e2]⟩
/-- a key's term has its topic's number -/
theorem key_num {a b : Nat} {T : List Tk} {t : Tk} (h1 : S[a]? = some T) (h2 : T[b]? = some t) {k : Kq} (hk : k ∈ t.keys) : ∃ e ∈ ixOf (mns S S.length), foldS e.term = foldS k.term ∧ ((totK S a + b : Nat) : Int) ∈ e.topics := by
  have hm : mnK ((totK S a + b : Nat) : Int) a k ∈ mns S S.length := mem_mns.2 ⟨a, b, T, t, (List.getElem?_eq_some_iff.1 h1).1, h1, h2, by rw [mnT, List.mem_append, List.mem_map]; exact .inl ⟨k, hk, rfl⟩⟩
  have hp : (foldS k.term, foldS k.sub) ∈ places (mns S S.length) := mem_places.2 ⟨_, hm, rfl⟩
  refine ⟨ixE _ _, ix_mem.2 ⟨_, hp, rfl⟩, (ent_term hp).1, ?_⟩
  rw [ixE_topics, num_key h1 h2]
  exact ⟨k, hk, rfl⟩
theorem ent_rise {e : En} (he : e ∈ ixOf (mns S S.length)) : e.topics.Pairwise (· < ·) ∧ ∀ x ∈ e.topics, 0 ≤ x ∧ x < (totK S S.length : Int) := by
  obtain ⟨p, hp, rfl⟩ := ix_mem.1 he
  have hr := mns_rise S S.length (Nat.le_refl _)
  rw [ixE_topics]
  refine ⟨topicsOf_rise hr.up p, fun x hx => ?_⟩
  obtain ⟨m, hm, _, _, rfl⟩ := topicsOf_mem.1 hx
  exact hr.lo m hm
end Go.Proofs.YtohngjkedhpikaaGreatDoor
