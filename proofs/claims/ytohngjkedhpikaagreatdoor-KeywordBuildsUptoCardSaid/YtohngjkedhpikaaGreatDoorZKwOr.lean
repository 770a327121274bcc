/-
  KEYWORD, OR, PLAIN: the sources the other way round lead to the same entries, the topics' numbers exchanged (KeywordOrders' law); over no program.
-/
import Derived.Test.YtohngjkedhpikaaGreatDoorZKwA2
import Derived.Test.YtohngjkedhpikaaGreatDoorZKwQ
namespace Go.Proofs.YtohngjkedhpikaaGreatDoor

/-- a mention, its topic's number, source and line left out -/
def Mn.bare (m : Mn) : ByteArray × ByteArray × ByteArray × Int := (m.term, m.sub, m.aim, m.see)
theorem bare_term {m m' : Mn} (h : m.bare = m'.bare) : m.term = m'.term := congrArg (fun x => x.1) h
theorem bare_sub {m m' : Mn} (h : m.bare = m'.bare) : m.sub = m'.sub := congrArg (fun x => x.2.1) h
theorem bare_aim {m m' : Mn} (h : m.bare = m'.bare) : m.aim = m'.aim := congrArg (fun x => x.2.2.1) h
theorem bare_see {m m' : Mn} (h : m.bare = m'.bare) : m.see = m'.see := congrArg (fun x => x.2.2.2) h
theorem bare_pl {m m' : Mn} (h : m.bare = m'.bare) : m.pl = m'.pl := by unfold Mn.pl; rw [bare_term h, bare_sub h]
def SubM (M M' : List Mn) : Prop := ∀ m ∈ M, ∃ m' ∈ M', m'.bare = m.bare
theorem mnT_bare {n i n' i' : Int} {t : Tk} {m : Mn} (h : m ∈ mnT n i t) : ∃ m' ∈ mnT n' i' t, m'.bare = m.bare := by
  rw [mnT, List.mem_append, List.mem_map, List.mem_map] at h
  rcases h with ⟨k, hk, rfl⟩ | ⟨s, hs, rfl⟩
  · exact ⟨mnK n' i' k, by rw [mnT, List.mem_append, List.mem_map]; exact .inl ⟨k, hk, rfl⟩, rfl⟩
  · exact ⟨mnS n' i' s, by rw [mnT, List.mem_append, List.mem_map, List.mem_map]; exact .inr ⟨s, hs, rfl⟩, rfl⟩
theorem rev_at {α : Type} {S : List α} {a : Nat} {T : α} (h : S[a]? = some T) : S.reverse[S.length - 1 - a]? = some T := by
  have ha := (List.getElem?_eq_some_iff.1 h).1
  rw [List.getElem?_reverse (by omega), show S.length - 1 - (S.length - 1 - a) = a by omega]
  exact h
theorem mns_sub_rev (S : List (List Tk)) : SubM (mns S S.length) (mns S.reverse S.reverse.length) := fun m hm => by
  obtain ⟨a, b, T, t, ha, h1, h2, h3⟩ := mem_mns.1 hm
  obtain ⟨m', hm', e⟩ := mnT_bare (n' := ((totK S.reverse (S.length - 1 - a) + b : Nat) : Int)) (i' := ((S.length - 1 - a : Nat) : Int)) h3
  exact ⟨m', mem_mns.2 ⟨S.length - 1 - a, b, T, t, by rw [List.length_reverse]; omega, rev_at h1, h2, hm'⟩, e⟩
theorem mns_rev_sub (S : List (List Tk)) : SubM (mns S.reverse S.reverse.length) (mns S S.length) := by
  have := mns_sub_rev S.reverse
  rwa [List.reverse_reverse] at this
variable {M M' : List Mn}
theorem SubM.has (h : SubM M M') {t : ByteArray} (k : hasM M t) : hasM M' t := by
  obtain ⟨m, hm, e⟩ := k
  obtain ⟨m', hm', e'⟩ := h m hm
  exact ⟨m', hm', by rw [bare_term e']; exact e⟩
theorem SubM.edge (h : SubM M M') {a b : ByteArray} (k : edgeM M a b) : edgeM M' a b := by
  obtain ⟨m, hm, e1, e2, e3⟩ := k
  obtain ⟨m', hm', e'⟩ := h m hm
  exact ⟨m', hm', by rw [bare_see e']; exact e1, by rw [bare_term e']; exact e2, by rw [bare_aim e']; exact e3⟩
theorem SubM.good (h : SubM M M') (k : SubM M' M) (hg : GoodM M) : GoodM M' := by
  refine ⟨fun m' hm' => ?_, fun m' hm' h1 => ?_⟩
  · obtain ⟨m, hm, e⟩ := k m' hm'
    have := hg.may m hm
    rwa [bare_term e, bare_sub e, bare_aim e, bare_see e] at this
  · obtain ⟨m, hm, e⟩ := k m' hm'
    have := hg.has m hm (by rw [bare_see e]; exact h1)
    rw [bare_term e, bare_aim e] at this
    exact ⟨h.has this.1, fun hr => this.2 (hr.mono fun x y => k.edge)⟩
theorem SubM.place (h : SubM M M') {p : Pl} (hp : p ∈ places M) : p ∈ places M' := by
  obtain ⟨m, hm, e⟩ := mem_places.1 hp
  obtain ⟨m', hm', e'⟩ := h m hm
  exact mem_places.2 ⟨m', hm', by rw [bare_pl e']; exact e⟩
theorem places_rev (h : SubM M M') (k : SubM M' M) : (places M).Perm (places M') := (List.perm_ext_iff_of_nodup (places_nodup M) (places_nodup M')).2 fun _ => ⟨h.place, k.place⟩
theorem srt_places_rev (h : SubM M M') (k : SubM M' M) : srt cmpP (places M) = srt cmpP (places M') :=
  srt_unique cmpP_ord (fun _ _ _ _ e => cmpP_zero.1 e) ((srt_perm _).trans (places_rev h k)) (srt_sorted cmpP_ord _)
/-- what is one is written alike -/
structure AlikeM (M : List Mn) : Prop where
  term : ∀ m ∈ M, ∀ m' ∈ M, foldS m.term = foldS m'.term → m.term = m'.term
  sub : ∀ m ∈ M, ∀ m' ∈ M, m.see = 0 → m'.see = 0 → m.pl = m'.pl → m.sub = m'.sub
  aim : ∀ m ∈ M, ∀ m' ∈ M, m.see = 1 → m'.see = 1 → foldS m.aim = foldS m'.aim → m.aim = m'.aim
theorem good_sub (hg : GoodM M) {m : Mn} (hm : m ∈ M) : m.sub = noB ↔ foldS m.sub = noB := by
  constructor
  · intro h; rw [h]; exact foldS_nil
  · intro h
    rcases (hg.may m hm).2.1 with h1 | h1
    · exact h1
    · exact absurd h (mayT_ok h1).2.2
theorem alike_sub (hg : GoodM M) (ha : AlikeM M) (hsee : ∀ m ∈ M, m.see = 0 ∨ (m.see = 1 ∧ m.sub = noB)) {m m' : Mn} (hm : m ∈ M) (hm' : m' ∈ M) (e : m.pl = m'.pl) : m.sub = m'.sub := by
  have e2 : foldS m.sub = foldS m'.sub := congrArg Prod.snd e
  by_cases h : m.sub = noB
  · have h1 := (good_sub hg hm).1 h
    rw [e2] at h1
    rw [h, (good_sub hg hm').2 h1]
  · have h' : ¬ m'.sub = noB := fun k => h ((good_sub hg hm).2 (by rw [e2]; exact (good_sub hg hm').1 k))
    have s1 := (hsee m hm).resolve_right fun k => h k.2
    have s2 := (hsee m' hm').resolve_right fun k => h' k.2
    exact ha.sub m hm m' hm' s1 s2 e
theorem seesOf_iff (ha : AlikeM M) {p : Pl} {x : ByteArray} : x ∈ seesOf M p ↔ ∃ m ∈ M, m.pl = p ∧ m.see = 1 ∧ m.aim = x := by
  constructor
  · exact seesOf_mem
  · rintro ⟨m, hm, h1, h2, rfl⟩
    obtain ⟨s, hs, e⟩ := seesOf_has hm h1 h2
    obtain ⟨m2, hm2, k1, k2, rfl⟩ := seesOf_mem hs
    rwa [← ha.aim m2 hm2 m hm k2 h2 e]
theorem SubM.alike (k : SubM M' M) (ha : AlikeM M) : AlikeM M' := by
  refine ⟨fun m hm m' hm' e => ?_, fun m hm m' hm' s s' e => ?_, fun m hm m' hm' s s' e => ?_⟩
  all_goals
    obtain ⟨x, hx, ex⟩ := k m hm
    obtain ⟨x', hx', ex'⟩ := k m' hm'
  · rw [← bare_term ex, ← bare_term ex']
    exact ha.term x hx x' hx' (by rw [bare_term ex, bare_term ex']; exact e)
  · rw [← bare_sub ex, ← bare_sub ex']
    exact ha.sub x hx x' hx' (by rw [bare_see ex]; exact s) (by rw [bare_see ex']; exact s') (by rw [bare_pl ex, bare_pl ex']; exact e)
  · rw [← bare_aim ex, ← bare_aim ex']
    exact ha.aim x hx x' hx' (by rw [bare_see ex]; exact s) (by rw [bare_see ex']; exact s') (by rw [bare_aim ex, bare_aim ex']; exact e)
theorem sees_nodup (M : List Mn) (p : Pl) : (seesOf M p).Nodup := nodup_of_map foldS seesOf_folds
theorem ixE_rev (h : SubM M M') (k : SubM M' M) (hg : GoodM M) (ha : AlikeM M) (hsee : ∀ m ∈ M, m.see = 0 ∨ (m.see = 1 ∧ m.sub = noB)) {p : Pl} (hp : p ∈ places M) :
    (ixE M p).term = (ixE M' p).term ∧ (ixE M p).sub = (ixE M' p).sub ∧ (ixE M p).sees = (ixE M' p).sees := by
  have hp' := h.place hp
  have ha' := k.alike ha
  refine ⟨?_, ?_, ?_⟩
  · obtain ⟨e1, ⟨m, hm, e2⟩, _⟩ := ent_term hp
    obtain ⟨e1', ⟨m', hm', e2'⟩, _⟩ := ent_term hp'
    obtain ⟨x, hx, ex⟩ := k m' hm'
    show (entOf M p).term = (entOf M' p).term
    rw [← e2, ← e2', ← bare_term ex]
    exact ha.term m hm x hx (by rw [bare_term ex, e2, e2', e1, e1'])
  · obtain ⟨_, m, hm, e1, e2⟩ := ent_sub hp
    obtain ⟨_, m', hm', e1', e2'⟩ := ent_sub hp'
    obtain ⟨x, hx, ex⟩ := k m' hm'
    show (entOf M p).sub = (entOf M' p).sub
    rw [← e2, ← e2', ← bare_sub ex]
    exact alike_sub hg ha hsee hm hx (by rw [bare_pl ex, e1, e1'])
  · show srt cmpS (seesOf M p) = srt cmpS (seesOf M' p)
    refine srt_unique cmpS_ord (sees_oneP (M := M') (p := p)) ((srt_perm _).trans ((List.perm_ext_iff_of_nodup (sees_nodup M p) (sees_nodup M' p)).2 fun x => ?_)) (srt_sorted cmpS_ord _)
    rw [seesOf_iff ha, seesOf_iff ha']
    constructor
    · rintro ⟨m, hm, e1, e2, e3⟩
      obtain ⟨m', hm', e⟩ := h m hm
      exact ⟨m', hm', by rw [bare_pl e]; exact e1, by rw [bare_see e]; exact e2, by rw [bare_aim e]; exact e3⟩
    · rintro ⟨m, hm, e1, e2, e3⟩
      obtain ⟨m', hm', e⟩ := k m hm
      exact ⟨m', hm', by rw [bare_pl e]; exact e1, by rw [bare_see e]; exact e2, by rw [bare_aim e]; exact e3⟩

/-! ### topics' numbers -/
theorem totK_rev (S : List (List Tk)) (j : Nat) (hj : j ≤ S.length) : totK S.reverse j + totK S (S.length - j) = totK S S.length := by
  induction j with
  | zero => simp [totK]
  | succ j ih =>
    have ih := ih (by omega)
    obtain ⟨T, hT⟩ : ∃ T, S[S.length - (j + 1)]? = some T := ⟨_, List.getElem?_eq_getElem (by omega)⟩
    have h1 := totK_succ hT
    have h2 := rev_at hT
    rw [show S.length - 1 - (S.length - (j + 1)) = j by omega] at h2
    rw [totK_succ h2]
    rw [show S.length - (j + 1) + 1 = S.length - j by omega] at h1
    omega
theorem totK_back {S : List (List Tk)} {a : Nat} {T : List Tk} (h : S[a]? = some T) : totK S.reverse (S.length - 1 - a) + totK S a + T.length = totK S S.length := by
  have ha := (List.getElem?_eq_some_iff.1 h).1
  have h1 := totK_rev S (S.length - 1 - a) (by omega)
  rw [show S.length - (S.length - 1 - a) = a + 1 by omega, totK_succ h] at h1
  omega
/-- the number that a topic has the other way round -/
def backN (S : List (List Tk)) (x y : Int) : Prop := ∃ (a b : Nat) (T : List Tk), S[a]? = some T ∧ b < T.length ∧ x = ((totK S a + b : Nat) : Int) ∧ y = ((totK S.reverse (S.length - 1 - a) + b : Nat) : Int)
variable {S : List (List Tk)}
theorem backN.inj {x x' y : Int} (h : backN S x y) (k : backN S x' y) : x = x' := by
  obtain ⟨a, b, T, h1, h2, rfl, e⟩ := h
  obtain ⟨a', b', T', k1, k2, rfl, e'⟩ := k
  have ha := (List.getElem?_eq_some_iff.1 h1).1
  have ha' := (List.getElem?_eq_some_iff.1 k1).1
  obtain ⟨e1, rfl⟩ := num_inj (rev_at h1) h2 (rev_at k1) k2 (by omega)
  obtain rfl : a = a' := by omega
  rfl
theorem backN.topic {x y : Int} {p : Pl} (h : backN S x y) (hx : x ∈ topicsOf (mns S S.length) p) : y ∈ topicsOf (mns S.reverse S.reverse.length) p := by
  obtain ⟨a, b, T, h1, h2, rfl, rfl⟩ := h
  have h3 : T[b]? = some T[b] := List.getElem?_eq_getElem h2
  rw [num_key h1 h3] at hx
  rw [num_key (rev_at h1) h3]
  exact hx
theorem topics_back {p : Pl} {x : Int} (hx : x ∈ topicsOf (mns S S.length) p) : ∃ y, backN S x y := by
  obtain ⟨m, hm, _, _, rfl⟩ := topicsOf_mem.1 hx
  obtain ⟨a, b, T, t, ha, h1, h2, h3⟩ := mem_mns.1 hm
  exact ⟨_, a, b, T, h1, (List.getElem?_eq_some_iff.1 h2).1, mnT_topic h3, rfl⟩
theorem topics_len_le (S : List (List Tk)) (p : Pl) : (topicsOf (mns S S.length) p).length ≤ (topicsOf (mns S.reverse S.reverse.length) p).length := by
  classical
  have hnd : (topicsOf (mns S S.length) p).Nodup := (topicsOf_rise (mns_rise S S.length (Nat.le_refl _)).up p).imp fun h e => by omega
  let f : Int → Int := fun x => if h : ∃ y, backN S x y then h.choose else 0
  have hf : ∀ x ∈ topicsOf (mns S S.length) p, backN S x (f x) := fun x hx => by
    have h := topics_back hx
    show backN S x (if h : ∃ y, backN S x y then h.choose else 0)
    rw [dif_pos h]
    exact h.choose_spec
  have h1 : ((topicsOf (mns S S.length) p).map f).Nodup := by
    rw [List.Nodup, List.pairwise_map]
    refine List.Pairwise.imp_of_mem (fun {x y} hx hy hne e => ?_) hnd
    have k1 := hf x hx
    rw [e] at k1
    exact hne (k1.inj (hf y hy))
  have := nodup_le h1 fun y hy => by
    obtain ⟨x, hx, rfl⟩ := List.mem_map.1 hy
    exact (hf x hx).topic hx
  rwa [List.length_map] at this
theorem topics_len_rev (S : List (List Tk)) (p : Pl) : (topicsOf (mns S S.length) p).length = (topicsOf (mns S.reverse S.reverse.length) p).length := by
  have h1 := topics_len_le S p
  have h2 := topics_len_le S.reverse p
  simp only [List.reverse_reverse, List.length_reverse] at h1 h2 ⊢
  omega
/-- the entries the other way round -/
theorem orders_at (hg : GoodM (mns S S.length)) (ha : AlikeM (mns S S.length)) {i : Nat} {e : En} (he : (ixOf (mns S S.length))[i]? = some e) :
    ∃ e', (ixOf (mns S.reverse S.reverse.length))[i]? = some e' ∧ e.term = e'.term ∧ e.sub = e'.sub ∧ e.sees = e'.sees ∧ e.topics.length = e'.topics.length ∧
      ∀ x ∈ e.topics, ∃ (a b : Nat) (T : List Tk), S[a]? = some T ∧ b < T.length ∧ x = ((totK S a + b : Nat) : Int) ∧ (totK S S.length : Int) - (totK S a : Int) - (T.length : Int) + x - (totK S a : Int) ∈ e'.topics := by
  have h := mns_sub_rev S
  have k := mns_rev_sub S
  obtain ⟨p, hp1, hp, rfl⟩ := ix_at he
  have hp1' := hp1
  rw [srt_places_rev h k] at hp1'
  refine ⟨ixE _ p, by rw [ixOf, List.getElem?_map, hp1']; rfl, (ixE_rev h k hg ha (fun m hm => mns_see hm) hp).1, (ixE_rev h k hg ha (fun m hm => mns_see hm) hp).2.1, (ixE_rev h k hg ha (fun m hm => mns_see hm) hp).2.2, topics_len_rev S p, fun x hx => ?_⟩
  obtain ⟨y, hb⟩ := topics_back (p := p) hx
  have hy := hb.topic (p := p) hx
  obtain ⟨a, b, T, h1, h2, rfl, rfl⟩ := hb
  have := totK_back h1
  refine ⟨a, b, T, h1, h2, rfl, ?_⟩
  show _ ∈ topicsOf (mns S.reverse S.reverse.length) p
  rw [show (totK S S.length : Int) - (totK S a : Int) - (T.length : Int) + ((totK S a + b : Nat) : Int) - (totK S a : Int) = ((totK S.reverse (S.length - 1 - a) + b : Nat) : Int) by omega]
  exact hy
theorem orders_len (S : List (List Tk)) : (ixOf (mns S S.length)).length = (ixOf (mns S.reverse S.reverse.length)).length := by
  rw [ixOf_length, ixOf_length]
  exact (places_rev (mns_sub_rev S) (mns_rev_sub S)).length_eq
theorem mnsT_len (n n' : Nat) (i i' : Int) (T : List Tk) (b : Nat) : (mnsT n i T b).length = (mnsT n' i' T b).length := by
  induction b with
  | zero => rfl
  | succ b ih =>
    rw [mnsT, mnsT, List.length_append, List.length_append, ih]
    cases h : T[b]? with
    | none => rfl
    | some t => simp [mnT]
/-- how many mentions a source has -/
def lenT (T : List Tk) : Nat := (mnsT 0 0 T T.length).length
theorem mns_len_succ {a : Nat} {T : List Tk} (h : S[a]? = some T) : (mns S (a + 1)).length = (mns S a).length + lenT T := by
  rw [mns_succ h, List.length_append, lenT, mnsT_len _ 0 _ 0]
theorem mns_len_rev (S : List (List Tk)) (j : Nat) (hj : j ≤ S.length) : (mns S.reverse j).length + (mns S (S.length - j)).length = (mns S S.length).length := by
  induction j with
  | zero => simp [mns]
  | succ j ih =>
    have ih := ih (by omega)
    obtain ⟨T, hT⟩ : ∃ T, S[S.length - (j + 1)]? = some T := ⟨_, List.getElem?_eq_getElem (by omega)⟩
    have h1 := mns_len_succ hT
    have h2 := rev_at hT
    rw [show S.length - 1 - (S.length - (j + 1)) = j by omega] at h2
    rw [mns_len_succ h2]
    rw [show S.length - (j + 1) + 1 = S.length - j by omega] at h1
    omega
theorem rev_facts (S : List (List Tk)) : (mns S.reverse S.reverse.length).length = (mns S S.length).length ∧ totK S.reverse S.reverse.length = totK S S.length := by
  have h1 := mns_len_rev S S.length (Nat.le_refl _)
  have h2 := totK_rev S S.length (Nat.le_refl _)
  simp only [Nat.sub_self, mns, totK, List.length_nil, Nat.add_zero] at h1 h2
  rw [List.length_reverse]
  exact ⟨h1, h2⟩
/-- whether there is an index, the other way round too -/
theorem buildK_rev (S : List (List Tk)) (ns nt : Nat) : (∃ l, buildK ns nt (mns S S.length) = .ok l) ↔ ∃ l, buildK ns nt (mns S.reverse S.reverse.length) = .ok l := by
  have h := mns_sub_rev S
  have k := mns_rev_sub S
  have hl := (places_rev h k).length_eq
  constructor
  · rintro ⟨l, hl'⟩
    obtain ⟨h1, _, h3, h4, h5⟩ := buildK_good hl'
    have hg := SubM.good h k h1
    exact ⟨_, buildK_ok (by omega) (by omega) hg.term hg.see⟩
  · rintro ⟨l, hl'⟩
    obtain ⟨h1, _, h3, h4, h5⟩ := buildK_good hl'
    have hg := SubM.good k h h1
    exact ⟨_, buildK_ok (by omega) (by omega) hg.term hg.see⟩
/-- the source that a topic's number belongs to -/
theorem src_of {a b k : Nat} {T : List Tk} (h1 : S[a]? = some T) (h2 : b < T.length) (hk : ∀ j, k < j → j < S.length → totK S a + b < totK S j) (hle : totK S k ≤ totK S a + b) : k = a := by
  have ha := (List.getElem?_eq_some_iff.1 h1).1
  have e1 := totK_succ h1
  rcases Nat.lt_trichotomy k a with c | c | c
  · have := hk a c ha; omega
  · exact c
  · have := totK_mono S (show a + 1 ≤ k by omega); omega
end Go.Proofs.YtohngjkedhpikaaGreatDoor
