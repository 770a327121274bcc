/-
  OPENING ARGUMENTS, over no program: slices of records, each read by its own decoder.
-/
import Derived.Test.YtkaoipegbjmlnaaOpen
import Derived.Test.YtkaoipegbjmlnaaRecs
import Derived.Deep.Slices
namespace Go.Proofs.Ytkaoipegbjmlnaa
open Go.RowKit Go.ChangeShapes Go.WideShapes
section
variable {H : Type} {enc : TypeId × Value → H} {P : Program} {W : World} {base : Nat} {sp : Nat → Bool} {held : Bool}
theorem open_recs {α : Type} {c : Enc α} {Good : α → DataW H → Prop} {t e : TypeId} {a : Option Addr} {len cap : Nat} {d : DataW H} {ps : List MemPlace} (ht : P.underlying t = some (.slice e)) (ce : P.cellsOf e = c.k) (hk : 0 < c.k)
    (hdec : ∀ cs n y, cs.length = c.k → DataW.trod enc P W base sp held n e cs = some y → ∃ r, cs = c.enc r ∧ Good r y.1)
    (h : DataW.Trod enc P W base sp held t (.slice a len cap) d ps) :
    ∃ l : List α, Recs c W (.slice a len cap) l ∧ Long d l.length ∧ ∀ (i : Nat) (x : α), l[i]? = some x → ∃ y, Good x y ∧ ∃ el spr, d = .slice el spr ∧ el[i]? = some y := by
  obtain ⟨fuel, hf⟩ := h
  rcases Deep.open_slice ht hf with ⟨hcs, hx⟩ | ⟨x, l, c', m, n, D, Pl, hcs, _, hl, hm, hmm, hx, hall⟩
  · simp [Value.cells] at hcs
    obtain ⟨rfl, rfl, rfl⟩ := hcs
    simp at hx
    exact ⟨[], Recs.nil c W, .inl ⟨hx.1, rfl⟩, fun i x h => by simp at h⟩
  · simp [Value.cells] at hcs
    obtain ⟨rfl, rfl, rfl⟩ := hcs
    have hlm : len ≤ m := by rw [hmm]; split <;> omega
    obtain ⟨rfl, _⟩ := Prod.mk.inj hx
    have each : ∀ i, i < len → ∃ r : α, (∀ j u, (c.enc r)[j]? = some u → W.cell? (x.add (i * c.k + j)) = some u) ∧ Good r (D i) := fun i hi => by
      obtain ⟨cs', h1, h2⟩ := hall i (by omega)
      rw [ce] at h1
      obtain ⟨_, hlen, hcell⟩ := World.cells?_some h1
      obtain ⟨r, rfl, hg⟩ := hdec cs' n _ hlen h2
      refine ⟨r, fun j u hu => ?_, hg⟩
      have hj : j < c.k := by rw [← c.len r]; exact (List.getElem?_eq_some_iff.1 hu).1
      have := hcell j hj
      rw [hu, Deep.add_add] at this
      exact this
    by_cases hlen0 : len = 0
    · subst hlen0
      exact ⟨[], ⟨some x, cap, 0, 0, rfl, by simp, by simpa [maxLen] using hm, fun h => absurd h (Nat.lt_irrefl 0), fun j u hu => by simp [Enc.all] at hu⟩, .inr ⟨_, _, rfl, by simp⟩, fun i x h => by simp at h⟩
    · have r0 : α := (each 0 (by omega)).choose
      let q : Nat → α := fun i => if hi : i < len then (each i hi).choose else r0
      have hq : ∀ i, i < len → (∀ j u, (c.enc (q i))[j]? = some u → W.cell? (x.add (i * c.k + j)) = some u) ∧ Good (q i) (D i) := fun i hi => by
        have := (each i hi).choose_spec
        simp only [q, dif_pos hi]
        exact this
      have hlen : ((List.range len).map q).length = len := by simp
      have hx0 : x = ⟨x.block, x.off, none⟩ := by
        have hz : (c.enc (q 0))[0]? ≠ none := fun e => by
          have := List.getElem?_eq_none_iff.1 e
          rw [c.len] at this; omega
        obtain ⟨u, hu⟩ := Option.ne_none_iff_exists'.1 hz
        have h0 := (hq 0 (by omega)).1 0 u hu
        rw [Nat.zero_mul] at h0
        exact addr_of_cell h0
      refine ⟨(List.range len).map q, ⟨some x, cap, x.block, x.off, by rw [hlen], by omega, by simpa [maxLen] using hm, fun _ => congrArg some hx0, fun j u hu => ?_⟩, .inr ⟨_, _, rfl, by simp⟩, fun i y hy => ?_⟩
      · have hj := (List.getElem?_eq_some_iff.1 hu).1
        rw [Enc.all_length, hlen] at hj
        have hd : j / c.k < len := (Nat.div_lt_iff_lt_mul hk).2 hj
        have hm2 : j % c.k < c.k := Nat.mod_lt _ hk
        have hjj : j / c.k * c.k + j % c.k = j := by rw [Nat.mul_comm]; exact Nat.div_add_mod j c.k
        have hget : ((List.range len).map q)[j / c.k]? = some (q (j / c.k)) := by rw [List.getElem?_map, List.getElem?_range hd]; rfl
        obtain ⟨u', hu'⟩ : ∃ u', (c.enc (q (j / c.k)))[j % c.k]? = some u' := ⟨_, List.getElem?_eq_getElem (by rw [c.len]; exact hm2)⟩
        have := Enc.all_at hget hu'
        rw [hjj, hu] at this
        obtain rfl := Option.some.inj this
        have h1 := (hq _ hd).1 _ _ hu'
        rw [hjj, hx0, Addr.add_lit] at h1
        exact later h1
      · have hi : i < len := by have := (List.getElem?_eq_some_iff.1 hy).1; rwa [hlen] at this
        rw [List.getElem?_map, List.getElem?_range hi] at hy
        obtain rfl := Option.some.inj hy
        exact ⟨D i, (hq i hi).2, _, _, rfl, by rw [List.getElem?_map, List.getElem?_range hi]; rfl⟩
end
end Go.Proofs.Ytkaoipegbjmlnaa
