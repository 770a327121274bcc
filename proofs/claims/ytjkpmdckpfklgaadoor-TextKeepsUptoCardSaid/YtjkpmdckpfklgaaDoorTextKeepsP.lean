/-
  TEXT, KEEPS, PLAIN: cells stand one behind the other; the cells of a part; a text cut; words and blanks are all of a text.
-/
import Derived.Test.YtjkpmdckpfklgaaDoorTextWideP
import Derived.Test.YtjkpmdckpfklgaaDoorTextCut
import Derived.Test.YtjkpmdckpfklgaaDoorTextWords
namespace Go.Proofs.YtjkpmdckpfklgaaDoor
open Go.RowKit

/-! ### where cells stand and how wide they are -/
def keysK (l : List UInt8) (p : Nat) (f : Bool) : List (Nat × Nat) :=
  if p < l.length then (if widC (chR l p) = 0 ∧ f = true then [] else [(p, max (widC (chR l p)) 1)]) ++ keysK l (p + chN l p) true else []
termination_by l.length - p
decreasing_by have := chN_pos l p; omega
theorem keysK_on {l : List UInt8} {p : Nat} (h : p < l.length) (f : Bool) : keysK l p f = (if widC (chR l p) = 0 ∧ f = true then [] else [(p, max (widC (chR l p)) 1)]) ++ keysK l (p + chN l p) true := by rw [keysK, if_pos h]
theorem keysK_end {l : List UInt8} {p : Nat} (h : ¬ p < l.length) (f : Bool) : keysK l p f = [] := by rw [keysK, if_neg h]
def keyOf (t : List CellR) : List (Nat × Nat) := t.map fun x => (x.a, x.w)
theorem map_set_same {α β : Type} (g : α → β) : ∀ {t : List α} {i : Nat} {x y : α}, t[i]? = some x → g y = g x → (t.set i y).map g = t.map g
  | [], i, x, y, h, _ => by simp at h
  | z :: t, 0, x, y, h, hw => by
    obtain rfl : z = x := by simpa using h
    rw [List.set_cons_zero]; simp [hw]
  | z :: t, i + 1, x, y, h, hw => by
    rw [List.set_cons_succ, List.map_cons, List.map_cons, map_set_same g (t := t) (i := i) (by simpa using h) hw]
theorem key_addC (t : List CellR) (p q w : Nat) : keyOf (addC t p q w) = keyOf t ++ if w = 0 ∧ decide (0 < t.length) = true then [] else [(p, max w 1)] := by
  unfold addC
  by_cases h : w = 0 ∧ 0 < t.length
  · rw [if_pos h, if_pos ⟨h.1, by simpa using h.2⟩, List.append_nil]
    exact map_set_same _ (lastC_get h.2) rfl
  · rw [if_neg h, if_neg (by simpa using h)]
    simp [keyOf]
theorem cellsGo_keys {l : List UInt8} : ∀ (d p : Nat) (t : List CellR), l.length - p = d → keyOf (cellsGo l p t) = keyOf t ++ keysK l p (decide (0 < t.length)) := by
  intro d
  induction d using Nat.strongRecOn with
  | _ d ih =>
    intro p t hd
    by_cases h : p < l.length
    · have h1 := chN_pos l p
      rw [cellsGo_on h, ih _ (by omega) _ _ rfl, key_addC, keysK_on h, decide_eq_true (addC_pos _ _ _ _), List.append_assoc]
    · rw [cellsGo_end h, keysK_end h, List.append_nil]
theorem cells_keys (l : List UInt8) : keyOf (cellsL l) = keysK l 0 false := by
  unfold cellsL
  rw [cellsGo_keys _ 0 [] rfl]; rfl
theorem keysK_cut {a b : List UInt8} : ∀ (d p : Nat) (f : Bool), a.length - p = d → p ≤ a.length → (∃ x ∈ charsAt (a ++ b) p, x.at' = a.length) →
    keysK (a ++ b) p f = keysK a p f ++ keysK (a ++ b) a.length (f || decide (p < a.length)) := by
  intro d
  induction d using Nat.strongRecOn with
  | _ d ih =>
    intro p f hd hp hx
    by_cases h : p < a.length
    · obtain ⟨h1, h2⟩ := at_cut h hx
      obtain ⟨e1, e2⟩ := ch_cut h h1
      have h3 := chN_pos a p
      rw [keysK_on (by rw [List.length_append]; omega), keysK_on h, ih _ (by omega) _ _ rfl h1 h2, e1, e2, decide_eq_true h, Bool.or_true, Bool.true_or, List.append_assoc]
    · obtain rfl : p = a.length := by omega
      rw [keysK_end (l := a) h, decide_eq_false h, Bool.or_false, List.nil_append]
theorem keysK_at {l : List UInt8} : ∀ (d p : Nat) (f : Bool), l.length - p = d → (∀ y ∈ keysK l p f, p ≤ y.1 ∧ y.1 < l.length ∧ ∃ x ∈ charsAt l p, x.at' = y.1) ∧ (keysK l p f).Pairwise (fun x y => x.1 < y.1) := by
  intro d
  induction d using Nat.strongRecOn with
  | _ d ih =>
    intro p f hd
    by_cases h : p < l.length
    · have h1 := chN_pos l p
      obtain ⟨i1, i2⟩ := ih (l.length - (p + chN l p)) (by omega) (p + chN l p) true rfl
      have hc := charsAt_on h
      rw [keysK_on h]
      split
      · rw [List.nil_append]
        refine ⟨fun y hy => ?_, i2⟩
        obtain ⟨k1, k2, x, k3, k4⟩ := i1 y hy
        exact ⟨by omega, k2, x, by rw [hc]; exact List.mem_cons_of_mem _ k3, k4⟩
      · rw [List.singleton_append]
        refine ⟨fun y hy => ?_, List.pairwise_cons.2 ⟨fun y hy => ?_, i2⟩⟩
        · rcases List.mem_cons.1 hy with rfl | hy
          · exact ⟨Nat.le_refl _, h, _, by rw [hc]; exact List.mem_cons_self, rfl⟩
          · obtain ⟨k1, k2, x, k3, k4⟩ := i1 y hy
            exact ⟨by omega, k2, x, by rw [hc]; exact List.mem_cons_of_mem _ k3, k4⟩
        · have := (i1 y hy).1
          show p < y.1
          omega
    · rw [keysK_end h]; exact ⟨by simp, List.Pairwise.nil⟩
/-- **the cells of what stands ahead of a cell** -/
theorem cells_ahead {l : List UInt8} {k : Nat} {x : CellR} (hx : (cellsL l)[k]? = some x) : keyOf (cellsL (l.take x.a)) = (keyOf (cellsL l)).take k := by
  have hk : (keyOf (cellsL l))[k]? = some (x.a, x.w) := by unfold keyOf; rw [List.getElem?_map, hx]; rfl
  rw [cells_keys] at hk ⊢
  rw [cells_keys]
  obtain ⟨hat, hso⟩ := keysK_at (l := l) _ 0 false rfl
  obtain ⟨_, h2, y, h3, h4⟩ := hat _ (List.mem_of_getElem? hk)
  dsimp only at h2 h4
  have hl : (l.take x.a).length = x.a := by rw [List.length_take]; omega
  have hsplit := keysK_cut (a := l.take x.a) (b := l.drop x.a) _ 0 false rfl (Nat.zero_le _) ⟨y, by rw [List.take_append_drop]; exact h3, by rw [hl]; exact h4⟩
  rw [List.take_append_drop, hl] at hsplit
  have h5 := (keysK_at (l := l.take x.a) _ 0 false rfl).1
  have h6 := (keysK_at (l := l) _ x.a (false || decide (0 < x.a)) rfl).1
  generalize keysK (l.take x.a) 0 false = K1 at *
  generalize keysK l x.a (false || decide (0 < x.a)) = K2 at *
  generalize keysK l 0 false = K at *
  have hklt := (List.getElem?_eq_some_iff.1 hk).1
  have hkv := (List.getElem?_eq_some_iff.1 hk).2
  have hge : K1.length ≤ k := by
    rcases Nat.lt_or_ge k K1.length with hc | hc
    · exfalso
      rw [hsplit, List.getElem?_append_left hc] at hk
      have := (h5 _ (List.mem_of_getElem? hk)).2.1
      rw [hl] at this
      dsimp only at this
      omega
    · exact hc
  have hle : k ≤ K1.length := by
    rcases Nat.lt_or_ge K1.length k with hc | hc
    · exfalso
      have hm : K1.length < K.length := by omega
      have hlt := List.pairwise_iff_getElem.1 hso K1.length k hm hklt hc
      rw [hkv] at hlt
      have he : K[K1.length]? = K2[0]? := by rw [hsplit, List.getElem?_append_right (Nat.le_refl _), Nat.sub_self]
      have hmem : K[K1.length] ∈ K2 := by
        rw [List.getElem?_eq_getElem hm] at he
        exact List.mem_of_getElem? he.symm
      have := (h6 _ hmem).1
      dsimp only at hlt
      omega
    · exact hc
  rw [hsplit, List.take_append_of_le_length hle, List.take_of_length_le hge]
theorem keyOf_take (t : List CellR) (k : Nat) : keyOf (t.take k) = (keyOf t).take k := List.map_take
theorem sumW_keys (t : List CellR) : sumW t = ((keyOf t).map (·.2)).sum := by
  induction t with
  | nil => rfl
  | cons x t ih => simp [sumW, keyOf, ih]
theorem cells_ahead_len {l : List UInt8} {k : Nat} {x : CellR} (hx : (cellsL l)[k]? = some x) : (cellsL (l.take x.a)).length = k ∧ sumW (cellsL (l.take x.a)) = sumW ((cellsL l).take k) := by
  have h := cells_ahead hx
  have hk := (List.getElem?_eq_some_iff.1 hx).1
  refine ⟨?_, ?_⟩
  · have := congrArg List.length h
    simp [keyOf] at this
    omega
  · rw [sumW_keys, sumW_keys, h, keyOf_take]

/-! ### cells one behind the other -/
def eK (t : List CellR) (k : Nat) : Nat := if k = 0 then 0 else (t.getD (k - 1) ⟨0, 0, 0⟩).e
def Chain (t : List CellR) (p : Nat) : Prop := p = eK t t.length ∧ ∀ k x, t[k]? = some x → x.a < x.e ∧ x.a = eK t k
theorem eK_last {t : List CellR} (h : 0 < t.length) : eK t t.length = (lastC t).e := by
  unfold eK lastC; rw [if_neg (by omega)]
theorem Chain.add {t : List CellR} {p q w : Nat} (h : Chain t p) (hq : p < q) : Chain (addC t p q w) q := by
  obtain ⟨h1, h2⟩ := h
  unfold addC
  split
  · rename_i hc
    have hp : 0 < t.length := hc.2
    have hlast := lastC_get hp
    refine ⟨?_, fun k x hx => ?_⟩
    · rw [eK_last (by rw [List.length_set]; exact hp)]
      unfold lastC
      rw [List.length_set, List.getD_eq_getElem?_getD, List.getElem?_set_self (by omega)]; rfl
    · have hk : k < t.length := by simpa using (List.getElem?_eq_some_iff.1 hx).1
      have he : eK (t.set (t.length - 1) { lastC t with e := q }) k = eK t k := by
        unfold eK
        split
        · rfl
        · rw [List.getD_eq_getElem?_getD, List.getD_eq_getElem?_getD, List.getElem?_set_ne (by omega)]
      rw [he]
      by_cases hkl : k = t.length - 1
      · subst hkl
        rw [List.getElem?_set_self (by omega)] at hx
        obtain rfl := Option.some.inj hx
        have := h2 _ _ hlast
        have hel := eK_last hp
        exact ⟨by show (lastC t).a < q; omega, this.2⟩
      · rw [List.getElem?_set_ne (by omega)] at hx
        exact h2 k x hx
  · refine ⟨?_, fun k x hx => ?_⟩
    · rw [eK_last (by simp), lastC_app]
    · have he : ∀ k, k ≤ t.length → eK (t ++ [⟨p, q, max w 1⟩]) k = eK t k := fun k hk => by
        unfold eK
        split
        · rfl
        · rw [List.getD_eq_getElem?_getD, List.getD_eq_getElem?_getD, List.getElem?_append_left (by omega)]
      rcases Nat.lt_or_ge k t.length with hk | hk
      · rw [List.getElem?_append_left hk] at hx
        rw [he k (by omega)]
        exact h2 k x hx
      · rw [List.getElem?_append_right hk] at hx
        have hk0 : k = t.length := by
          have := (List.getElem?_eq_some_iff.1 hx).1
          simp at this; omega
        subst hk0
        rw [Nat.sub_self] at hx
        obtain rfl : _ = x := by simpa using hx
        rw [he _ (Nat.le_refl _)]
        exact ⟨hq, h1⟩
theorem cellsL_chain (l : List UInt8) : Chain (cellsL l) l.length :=
  cellsL_ind (Q := Chain) ⟨rfl, by simp⟩ (fun t p _ h => h.add (by have := chN_pos l p; omega))
theorem eK_next {t : List CellR} {k : Nat} {x : CellR} (h : t[k]? = some x) : eK t (k + 1) = x.e := by
  unfold eK
  rw [if_neg (by omega), Nat.add_sub_cancel, List.getD_eq_getElem?_getD, h]; rfl
theorem eK_zero (t : List CellR) : eK t 0 = 0 := rfl

/-! ### cut -/
theorem cutAt_says {wide : Int} {t : List CellR} : ∀ (r : List CellR) (k : Nat), t.drop k = r → k ≤ t.length → (k = 0 ∨ (sumW (t.take k) : Int) ≤ wide) →
    (∀ A, cutAt wide r (sumW (t.take k)) = some A → ∃ i x, t[i]? = some x ∧ x.a = A ∧ wide < (sumW (t.take i) : Int) + x.w ∧ (i = 0 ∨ (sumW (t.take i) : Int) ≤ wide)) ∧
    (cutAt wide r (sumW (t.take k)) = none → t = [] ∨ (sumW t : Int) ≤ wide)
  | [], k, hd, hk, h => by
    refine ⟨fun A hA => (by cases hA), fun _ => ?_⟩
    have hkl : k = t.length := by
      have := congrArg List.length hd
      simp at this; omega
    subst hkl
    rw [List.take_length] at h
    rcases h with h | h
    · exact .inl (List.eq_nil_of_length_eq_zero h)
    · exact .inr h
  | x :: r, k, hd, hk, h => by
    have hlt : k < t.length := by
      have := congrArg List.length hd
      simp at this; omega
    have hx : t[k]? = some x := by
      have : (t.drop k)[0]? = some x := by rw [hd]; rfl
      rw [List.getElem?_drop] at this
      exact this
    have hr : t.drop (k + 1) = r := by
      rw [← List.drop_drop, hd]; rfl
    have hs := sumW_take hx
    by_cases hc : wide < (sumW (t.take k) : Int) + x.w
    · rw [cutAt, if_pos hc]
      exact ⟨fun A hA => ⟨k, x, hx, Option.some.inj hA, hc, h⟩, fun hA => (by cases hA)⟩
    · rw [cutAt, if_neg hc, ← hs]
      exact cutAt_says r (k + 1) hr hlt (.inr (by rw [hs]; omega))

/-! ### words -/
def cov (t : List CellR) (j : Nat) : Prop := ∃ x ∈ t, x.a ≤ j ∧ j < x.e
theorem wordsGo_cover {s : ByteArray} : ∀ (d i p : Nat) (t : List CellR), s.size + 1 - i = d → p ≤ i → i ≤ s.size + 1 → (s.size < i → s.size < p) → (∀ j, j < p → j < s.size → cov t j ∨ isSp s j = true) → (∀ x ∈ t, x.a < x.e ∧ x.e ≤ s.size) →
    (∀ j, j < s.size → cov (wordsGo s i p t) j ∨ isSp s j = true) ∧ (∀ x ∈ wordsGo s i p t, x.a < x.e ∧ x.e ≤ s.size) := by
  intro d
  induction d using Nat.strongRecOn with
  | _ d ih =>
    intro i p t hd hpi hi hend hc hb
    by_cases h : i ≤ s.size
    · by_cases h' : i < s.size ∧ isSp s i = false
      · rw [wordsGo_in h'.1 h'.2]
        exact ih _ (by omega) (i + 1) p t rfl (by omega) (by omega) (by omega) hc hb
      · have hsp : i < s.size → isSp s i = true := fun k => by
          cases e : isSp s i
          · exact absurd ⟨k, e⟩ h'
          · rfl
        rw [wordsGo_cut h hsp]
        refine ih _ (by omega) (i + 1) (i + 1) _ rfl (Nat.le_refl _) (by omega) (fun k => k) (fun j hj hjs => ?_) (fun x hx => ?_)
        · rcases Nat.lt_or_ge j p with k | k
          · rcases hc j k hjs with ⟨x, hx, hxj⟩ | hs
            · refine .inl ⟨x, ?_, hxj⟩
              unfold addW
              split
              · exact List.mem_append_left _ hx
              · exact hx
            · exact .inr hs
          · rcases Nat.lt_or_ge j i with k2 | k2
            · refine .inl ⟨⟨p, i, wideS (s.extract p i)⟩, ?_, k, k2⟩
              unfold addW
              rw [if_pos (by omega)]
              simp
            · obtain rfl : j = i := by omega
              exact .inr (hsp hjs)
        · unfold addW at hx
          split at hx
          · rcases List.mem_append.1 hx with hx | hx
            · exact hb x hx
            · rw [List.mem_singleton.1 hx]
              exact ⟨by assumption, h⟩
          · exact hb x hx
    · rw [wordsGo_end h]
      exact ⟨fun j hj => hc j (by have := hend (by omega); omega) hj, hb⟩
theorem words_cover (s : ByteArray) : (∀ j, j < s.size → cov (wordsS s) j ∨ isSp s j = true) ∧ (∀ x ∈ wordsS s, x.a < x.e ∧ x.e ≤ s.size) :=
  wordsGo_cover _ 0 0 [] rfl (Nat.le_refl _) (Nat.zero_le _) (fun h => by omega) (by simp) (by simp)
/-- bytes with a word laid over -/
def bareUp (l B : List UInt8) (x : CellR) : List UInt8 := B.take x.a ++ (l.drop x.a).take (x.e - x.a) ++ B.drop x.e
theorem bareUp_len {l B : List UInt8} {x : CellR} (h : x.a < x.e ∧ x.e ≤ l.length) (hB : B.length = l.length) : (bareUp l B x).length = l.length := by
  unfold bareUp
  simp
  omega
theorem bareUp_get {l B : List UInt8} {x : CellR} (h : x.a < x.e ∧ x.e ≤ l.length) (hB : B.length = l.length) (j : Nat) : (bareUp l B x)[j]? = if x.a ≤ j ∧ j < x.e then l[j]? else B[j]? := by
  have h1 : (B.take x.a).length = x.a := by rw [List.length_take]; omega
  have h2 : ((l.drop x.a).take (x.e - x.a)).length = x.e - x.a := by rw [List.length_take, List.length_drop]; omega
  unfold bareUp
  by_cases ha : j < x.a
  · rw [if_neg (by omega), List.append_assoc, List.getElem?_append_left (by omega), List.getElem?_take_of_lt ha]
  · by_cases he : j < x.e
    · rw [if_pos ⟨by omega, he⟩, List.getElem?_append_left (by rw [List.length_append]; omega), List.getElem?_append_right (by omega), h1, List.getElem?_take_of_lt (by omega), List.getElem?_drop]
      congr 1; omega
    · rw [if_neg (by omega), List.getElem?_append_right (by rw [List.length_append]; omega), List.length_append, h1, h2, List.getElem?_drop]
      congr 1; omega
theorem bare_all {l : List UInt8} : ∀ (t : List CellR) (B : List UInt8), (∀ x ∈ t, x.a < x.e ∧ x.e ≤ l.length) → B.length = l.length → (∀ j, j < l.length → cov t j ∨ B[j]? = l[j]?) → t.foldl (bareUp l) B = l
  | [], B, _, hB, h => by
    refine List.ext_getElem? fun j => ?_
    rcases Nat.lt_or_ge j l.length with hj | hj
    · rcases h j hj with ⟨x, hx, _⟩ | e
      · cases hx
      · exact e
    · rw [List.getElem?_eq_none (by show B.length ≤ j; omega), List.getElem?_eq_none hj]
  | x :: t, B, hb, hB, h => by
    have hx := hb x (by simp)
    rw [List.foldl_cons]
    refine bare_all t _ (fun y hy => hb y (by simp [hy])) (bareUp_len hx hB) (fun j hj => ?_)
    rw [bareUp_get hx hB]
    rcases h j hj with ⟨y, hy, k1, k2⟩ | e
    · rcases List.mem_cons.1 hy with rfl | hy
      · exact .inr (by rw [if_pos ⟨k1, k2⟩])
      · exact .inl ⟨y, hy, k1, k2⟩
    · right
      split
      · rfl
      · exact e
/-- **words and blanks are all** -/
theorem words_all (s : ByteArray) : (wordsS s).foldl (bareUp s.data.toList) (List.replicate s.size 32) = s.data.toList := by
  obtain ⟨h1, h2⟩ := words_cover s
  refine bare_all _ _ (fun x hx => by rw [str_len]; exact h2 x hx) (by rw [List.length_replicate, str_len]) (fun j hj => ?_)
  rw [str_len] at hj
  rcases h1 j hj with h | h
  · exact .inl h
  · right
    have hjl : j < s.data.toList.length := by rw [str_len]; exact hj
    unfold isSp at h
    rw [beq_iff_eq, List.getD_eq_getElem?_getD, List.getElem?_eq_getElem hjl] at h
    rw [List.getElem?_replicate, if_pos hj, List.getElem?_eq_getElem hjl]
    exact congrArg some h.symm
end Go.Proofs.YtjkpmdckpfklgaaDoor
