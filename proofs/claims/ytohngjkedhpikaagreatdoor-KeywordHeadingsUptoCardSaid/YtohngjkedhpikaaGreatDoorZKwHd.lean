/-
  KEYWORD, HD, PLAIN: what headings say of entries in order; over no program.
-/
import Derived.Test.YtohngjkedhpikaaGreatDoorZTextJoin
import Derived.Test.YtohngjkedhpikaaGreatDoorZKwQ
import Derived.Lib.RuneBytes
namespace Go.Proofs.YtohngjkedhpikaaGreatDoor

/-- the headings of the first n entries -/
structure HdOk (g : ByteArray → ByteArray) (l : List En) (H : List Hd) (n : Nat) : Prop where
  at0 : ∀ h, H[0]? = some h → h.at' = 0
  lo : ∀ (i : Nat) (h : Hd), H[i]? = some h → ∃ a : Nat, h.at' = a ∧ a < n
  up : ∀ (i : Nat) (h k : Hd), H[i]? = some h → H[i + 1]? = some k → h.at' < k.at'
  ne : ∀ (i : Nat) (h k : Hd), H[i]? = some h → H[i + 1]? = some k → ¬ h.name = k.name
  in_ : ∀ (i : Nat) (h : Hd) (j : Nat) (e : En), H[i]? = some h → h.at' ≤ j → j < n → (∀ k, H[i + 1]? = some k → (j : Int) < k.at') → l[j]? = some e → g (foldS e.term) = h.name
theorem snoc_at {α : Type} {H : List α} {x h : α} {i : Nat} (hi : (H ++ [x])[i]? = some h) : (i < H.length ∧ H[i]? = some h) ∨ (i = H.length ∧ x = h) := by
  by_cases hl : i < H.length
  · rw [List.getElem?_append_left hl] at hi; exact .inl ⟨hl, hi⟩
  · rw [List.getElem?_append_right (by omega)] at hi
    have h0 := (List.getElem?_eq_some_iff.1 hi).1
    simp at h0
    have e : i - H.length = 0 := by omega
    rw [e] at hi
    exact .inr ⟨by omega, by simpa using hi⟩
theorem last_at {α : Type} {H : List α} {h : α} {i : Nat} (hi : H[i]? = some h) (hl : H.length = i + 1) : H.getLast? = some h := by
  rw [List.getLast?_eq_getElem?, hl]; exact hi
theorem headK_ok (g : ByteArray → ByteArray) (l : List En) : ∀ n, n ≤ l.length → HdOk g l (headK g l n) n
  | 0, _ => ⟨fun h hh => by simp [headK] at hh, fun i h hh => by simp [headK] at hh, fun i h k hh => by simp [headK] at hh, fun i h k hh => by simp [headK] at hh, fun i h j e hh => by simp [headK] at hh⟩
  | n + 1, hn => by
    have ih := headK_ok g l n (by omega)
    obtain ⟨e, he⟩ : ∃ e, l[n]? = some e := ⟨_, List.getElem?_eq_getElem (by omega)⟩
    have hz := headK_zero (g := g) (l := l) (n := n) (by omega)
    rw [headK_snoc he, headStep]
    generalize headK g l n = H at *
    split
    · rename_i hs
      refine ⟨ih.at0, fun i h hh => ?_, ih.up, ih.ne, fun i h j e' hh h1 h2 h3 h4 => ?_⟩
      · obtain ⟨a, h1, h2⟩ := ih.lo i h hh
        exact ⟨a, h1, by omega⟩
      · by_cases hj : j < n
        · exact ih.in_ i h j e' hh h1 hj h3 h4
        · obtain rfl : j = n := by omega
          obtain rfl : e = e' := Option.some.inj (he.symm.trans h4)
          have hil := (List.getElem?_eq_some_iff.1 hh).1
          have hlen : H.length = i + 1 := by
            rcases Nat.lt_or_ge (i + 1) H.length with c | c
            · obtain ⟨a, h5, h6⟩ := ih.lo (i + 1) _ (List.getElem?_eq_getElem c)
              have := h3 _ (List.getElem?_eq_getElem c)
              omega
            · omega
          rw [last_at hh hlen] at hs
          exact (Option.some.inj hs).symm
    · rename_i hs
      refine ⟨fun h hh => ?_, fun i h hh => ?_, fun i h k hh hk => ?_, fun i h k hh hk => ?_, fun i h j e' hh h1 h2 h3 h4 => ?_⟩
      · rcases snoc_at hh with ⟨_, h1⟩ | ⟨h1, rfl⟩
        · exact ih.at0 h h1
        · have : n = 0 := hz.1 (List.length_eq_zero_iff.1 h1.symm)
          subst this
          rfl
      · rcases snoc_at hh with ⟨_, h1⟩ | ⟨h1, rfl⟩
        · obtain ⟨a, h2, h3⟩ := ih.lo i h h1
          exact ⟨a, h2, by omega⟩
        · exact ⟨n, rfl, by omega⟩
      · rcases snoc_at hk with ⟨h1, h2⟩ | ⟨h1, rfl⟩
        · rcases snoc_at hh with ⟨_, h3⟩ | ⟨h3, _⟩
          · exact ih.up i h k h3 h2
          · omega
        · rcases snoc_at hh with ⟨_, h3⟩ | ⟨h3, _⟩
          · obtain ⟨a, h4, h5⟩ := ih.lo i h h3
            rw [h4]; show (a : Int) < n; omega
          · omega
      · rcases snoc_at hk with ⟨h1, h2⟩ | ⟨h1, rfl⟩
        · rcases snoc_at hh with ⟨_, h3⟩ | ⟨h3, _⟩
          · exact ih.ne i h k h3 h2
          · omega
        · rcases snoc_at hh with ⟨_, h3⟩ | ⟨h3, _⟩
          · intro hc
            rw [last_at h3 h1.symm] at hs
            exact hs (congrArg some hc)
          · omega
      · rcases snoc_at hh with ⟨h5, h6⟩ | ⟨h5, rfl⟩
        · rcases Nat.lt_or_ge (i + 1) H.length with c | c
          · have hk := h3 _ (by rw [List.getElem?_append_left c]; exact List.getElem?_eq_getElem c)
            obtain ⟨a, h7, h8⟩ := ih.lo (i + 1) _ (List.getElem?_eq_getElem c)
            refine ih.in_ i h j e' h6 h1 (by omega) (fun k hk' => h3 k (by rw [List.getElem?_append_left c]; exact hk')) h4
          · have h7 : i + 1 = H.length := by omega
            have hk := h3 ⟨g (foldS e.term), n⟩ (by rw [h7, List.getElem?_append_right (Nat.le_refl _)]; simp)
            have hk : (j : Int) < n := hk
            exact ih.in_ i h j e' h6 h1 (by omega) (fun k hk' => by have := (List.getElem?_eq_some_iff.1 hk').1; omega) h4
        · have h1 : (n : Int) ≤ j := h1
          obtain rfl : j = n := by omega
          obtain rfl : e = e' := Option.some.inj (he.symm.trans h4)
          rfl
theorem HdOk.mono {g : ByteArray → ByteArray} {l : List En} {H : List Hd} {n : Nat} (h : HdOk g l H n) {i : Nat} {x : Hd} (hx : H[i]? = some x) : ∀ {d : Nat} {y : Hd}, H[i + d]? = some y → x.at' ≤ y.at'
  | 0, y, hy => by
    obtain rfl : x = y := Option.some.inj (hx.symm.trans hy)
    exact Int.le_refl _
  | d + 1, y, hy => by
    obtain ⟨z, hz⟩ : ∃ z, H[i + d]? = some z := ⟨_, List.getElem?_eq_getElem (by have := (List.getElem?_eq_some_iff.1 hy).1; omega)⟩
    have h1 := h.mono hx hz
    have h2 := h.up (i + d) z y hz hy
    omega
/-! ### letters -/
theorem elsGo_kind (s : ByteArray) : ∀ (p : Nat) (t : List El), (∀ e ∈ t, e.k = 1 ∨ e.k = kindC e.r) → ∀ e ∈ elsGo s p t, e.k = 1 ∨ e.k = kindC e.r := by
  intro p
  induction hd : s.size - p using Nat.strongRecOn generalizing p with
  | ind d ih =>
    intro t ht
    by_cases h : p < s.size
    · rw [elsGo_on h]
      have hlt := elStep_lt s p
      refine ih (s.size - (elStep s p).2) (by omega) _ rfl _ fun e he => ?_
      rw [List.mem_append] at he
      rcases he with he | he
      · exact ht e he
      · unfold elStep at he
        split at he
        · simp only [List.mem_singleton] at he
          subst he
          exact .inl rfl
        · split at he
          · cases he
          · unfold baseEls at he
            rw [List.mem_map] at he
            obtain ⟨c, _, rfl⟩ := he
            exact .inr rfl
    · rw [elsGo_end h]; exact ht
theorem enc_size {r : Nat} (h : 192 ≤ r) : (Utf8.encode (r : Int)).size ≠ 1 := by
  rw [encode_rune]
  have e : (⟨(Lib.encodeRune (r : Int)).toArray⟩ : ByteArray).size = (Lib.encodeRuneZ (r : Int)).length := by
    show (Lib.encodeRune (r : Int)).toArray.size = _
    simp [Lib.encodeRune]
  rw [e]
  unfold Lib.encodeRuneZ
  rw [if_neg (by omega)]
  split
  · simp
  · split
    · simp
    · split <;> simp
theorem one_inj {a b : UInt8} (h : (⟨#[a]⟩ : ByteArray) = ⟨#[b]⟩) : a = b := by
  injection h with h
  injection h with h
  exact (List.cons.inj h).1
theorem enc_letter {r : Nat} (h1 : 97 ≤ r) (h2 : r ≤ 122) : Utf8.encode ((r : Int) - 32) = ⟨#[UInt8.ofNat (r - 32)]⟩ := by
  rw [encode_rune, show (r : Int) - 32 = ((r - 32 : Nat) : Int) by omega]
  unfold Lib.encodeRune
  rw [Lib.encodeRuneZ_one (by omega) (by omega)]
  rfl
theorem groupE_cons (e : El) (t : List El) : groupE (e :: t) = if e.k = 1 then ⟨#[48]⟩ else if e.k = 0 then ⟨#[42]⟩ else if 97 ≤ e.r ∧ e.r ≤ 122 then Utf8.encode ((e.r : Int) - 32) else Utf8.encode e.r := rfl
theorem grp_letter {s : ByteArray} {b : UInt8} (h1 : 65 ≤ b.toNat) (h2 : b.toNat ≤ 90) : grpS s = ⟨#[b]⟩ ↔ ∃ e t, elsS s = e :: t ∧ e.k = 2 ∧ e.r = b.toNat + 32 := by
  have hk := elsGo_kind s 0 [] (by simp)
  change ∀ e ∈ elsS s, _ at hk
  unfold grpS
  cases he : elsS s with
  | nil =>
    constructor
    · intro h
      have := one_inj (show (⟨#[42]⟩ : ByteArray) = ⟨#[b]⟩ from h)
      subst this
      exact absurd h1 (by decide)
    · rintro ⟨e, t, h, _⟩; cases h
  | cons e t =>
    rw [he] at hk
    have hke := hk e (by simp)
    rw [groupE_cons]
    constructor
    · intro h
      split at h
      · have := one_inj h
        subst this
        exact absurd h1 (by decide)
      · rename_i k1
        split at h
        · have := one_inj h
          subst this
          exact absurd h1 (by decide)
        · rename_i k0
          have hke : e.k = kindC e.r := by omega
          have hk2 : e.k = 2 := by
            unfold kindC at hke
            split at hke <;> omega
          split at h
          · rename_i hr
            rw [enc_letter hr.1 hr.2] at h
            have := one_inj h
            refine ⟨e, t, rfl, hk2, ?_⟩
            rw [← this, UInt8.toNat_ofNat']
            omega
          · rename_i hr
            exfalso
            have hge : 192 ≤ e.r := by
              rw [hk2] at hke
              unfold kindC at hke
              split at hke
              · rename_i hc; omega
              · omega
            have := enc_size hge
            rw [h] at this
            exact this rfl
    · rintro ⟨e', t', h, hk2, hr⟩
      obtain ⟨rfl, rfl⟩ := List.cons.inj h
      rw [if_neg (by omega), if_neg (by omega), if_pos (by omega), enc_letter (by omega) (by omega), hr]
      congr
      rw [show b.toNat + 32 - 32 = b.toNat by omega]
      simp
theorem compare_first {x y : ByteArray} (h : compareT x y ≤ 0) : lexL cmpEl (elsS x) (elsS y) ≤ 0 := by
  rw [compareT_eq] at h
  unfold allC seqC at h
  dsimp only at h
  split at h
  · omega
  · exact h
theorem compareInt_le {x y : Int} (h : Lib.compareInt x y ≤ 0) : x ≤ y := by
  unfold Lib.compareInt at h
  split at h
  · omega
  · split at h <;> omega
theorem lex_first {a b : El} {x y : List El} (h : lexL cmpEl (a :: x) (b :: y) ≤ 0) : cmpEl a b ≤ 0 := by
  rw [lexL] at h
  split at h <;> omega
theorem cmpEl_kind {a b : El} (h : cmpEl a b ≤ 0) : a.k ≤ b.k ∧ (a.k = b.k → ¬ a.k = 1 → a.r ≤ b.r) := by
  unfold cmpEl at h
  split at h
  · rename_i hk
    have := compareInt_le h
    refine ⟨by omega, fun e => ?_⟩
    rw [e, compareInt_zero] at hk
    exact absurd rfl hk
  · rename_i hk
    have hk : (a.k : Int) = b.k := compareInt_eq (by simpa using hk)
    refine ⟨by omega, fun _ hn => ?_⟩
    rw [if_neg hn] at h
    have := compareInt_le h
    omega
/-- what stands between two of one letter is of that letter -/
theorem grp_mid {x y z : ByteArray} {b : UInt8} (h1 : 65 ≤ b.toNat) (h2 : b.toNat ≤ 90) (hxy : compareT x y ≤ 0) (hyz : compareT y z ≤ 0) (hx : grpS x = ⟨#[b]⟩) (hz : grpS z = ⟨#[b]⟩) : grpS y = ⟨#[b]⟩ := by
  obtain ⟨e1, t1, e1s, k1, r1⟩ := (grp_letter h1 h2).1 hx
  obtain ⟨e3, t3, e3s, k3, r3⟩ := (grp_letter h1 h2).1 hz
  have a1 := compare_first hxy
  have a2 := compare_first hyz
  rw [e1s] at a1
  rw [e3s] at a2
  cases hy : elsS y with
  | nil => rw [hy, lexL] at a1; omega
  | cons e2 t2 =>
    rw [hy] at a1 a2
    have c1 := cmpEl_kind (lex_first a1)
    have c2 := cmpEl_kind (lex_first a2)
    refine (grp_letter h1 h2).2 ⟨e2, t2, hy, by omega, ?_⟩
    have d1 := c1.2 (by omega) (by omega)
    have d2 := c2.2 (by omega) (by omega)
    omega
variable {M : List Mn}
theorem ix_sorted {i j : Nat} {x y : En} (hij : i ≤ j) (hx : (ixOf M)[i]? = some x) (hy : (ixOf M)[j]? = some y) : compareT (foldS x.term) (foldS y.term) ≤ 0 := by
  obtain ⟨p, hp, hpm, rfl⟩ := ix_at hx
  obtain ⟨q, hq, hqm, rfl⟩ := ix_at hy
  have e1 : foldS (ixE M p).term = p.1 := (ent_term hpm).1
  have e2 : foldS (ixE M q).term = q.1 := (ent_term hqm).1
  rw [e1, e2]
  by_cases e : i = j
  · subst e
    obtain rfl : p = q := Option.some.inj (hp.symm.trans hq)
    rw [compareT_zero.2 rfl]; omega
  · obtain ⟨i1, hi1⟩ := List.getElem?_eq_some_iff.1 hp
    obtain ⟨j1, hj1⟩ := List.getElem?_eq_some_iff.1 hq
    have := List.pairwise_iff_getElem.1 (places_strict M) i j i1 j1 (by omega)
    rw [hi1, hj1] at this
    unfold cmpP at this
    split at this <;> omega
/-- no letter is a heading twice -/
theorem head_seen {i j : Nat} {x y : Hd} (hij : i < j) (hx : (headK grpS (ixOf M) (ixOf M).length)[i]? = some x) (hy : (headK grpS (ixOf M) (ixOf M).length)[j]? = some y) (hn : x.name = y.name) {b : UInt8} (h1 : 65 ≤ b.toNat) (h2 : b.toNat ≤ 90) : ¬ y.name = ⟨#[b]⟩ := by
  intro hb
  have ho := headK_ok grpS (ixOf M) _ (Nat.le_refl _)
  generalize headK grpS (ixOf M) (ixOf M).length = H at *
  obtain ⟨z, hz⟩ : ∃ z, H[i + 1]? = some z := ⟨_, List.getElem?_eq_getElem (by have := (List.getElem?_eq_some_iff.1 hy).1; omega)⟩
  have u1 := ho.up i x z hx hz
  have u2 := ho.mono hz (d := j - (i + 1)) (y := y) (by rw [show i + 1 + (j - (i + 1)) = j by omega]; exact hy)
  obtain ⟨a, ha, hal⟩ := ho.lo i x hx
  obtain ⟨c, hc, hcl⟩ := ho.lo (i + 1) z hz
  obtain ⟨d, hd, hdl⟩ := ho.lo j y hy
  have g1 := ho.in_ i x a _ hx (by omega) hal (fun k hk => by rw [hz] at hk; obtain rfl := Option.some.inj hk; omega) (List.getElem?_eq_getElem hal)
  have g2 := ho.in_ (i + 1) z c _ hz (by omega) hcl (fun k hk => by have := ho.up (i + 1) z k hz hk; omega) (List.getElem?_eq_getElem hcl)
  have g3 := ho.in_ j y d _ hy (by omega) hdl (fun k hk => by have := ho.up j y k hy hk; omega) (List.getElem?_eq_getElem hdl)
  have s1 := ix_sorted (M := M) (show a ≤ c by omega) (List.getElem?_eq_getElem hal) (List.getElem?_eq_getElem hcl)
  have s2 := ix_sorted (M := M) (show c ≤ d by omega) (List.getElem?_eq_getElem hcl) (List.getElem?_eq_getElem hdl)
  have := grp_mid h1 h2 s1 s2 (g1.trans (hn.trans hb)) (g3.trans hb)
  rw [g2] at this
  exact ho.ne i x z hx hz (by rw [hn, hb, this])
end Go.Proofs.YtohngjkedhpikaaGreatDoor
