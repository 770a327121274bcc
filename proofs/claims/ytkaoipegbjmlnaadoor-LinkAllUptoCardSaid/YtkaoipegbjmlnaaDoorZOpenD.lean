/-
  OPENING ARGUMENTS, over no program: slices of records, each read by its own decoder.
-/
import Derived.Test.YtkaoipegbjmlnaaDoorZOpen
import Derived.Test.YtkaoipegbjmlnaaDoorZRecs
import Derived.Deep.Slices
import Derived.Test.YtkaoipegbjmlnaaDoorRows
import Derived.Test.YtkaoipegbjmlnaaDoorZDeep
namespace Go.Proofs.YtkaoipegbjmlnaaDoor
open Go.RowKit Go.ChangeShapes Go.WideShapes
section
variable {H : Type} {enc : TypeId × Value → H} {P : Program} {W : World} {base : Nat} {sp : Nat → Bool} {held : Bool}
theorem open_recs {α : Type} {c : Enc α} {Good : α → DataW H → Prop} {t e : TypeId} {a : Option Addr} {len cap : Nat} {d : DataW H} {ps : List MemPlace} (ht : P.underlying t = some (.slice e)) (ce : P.cellsOf e = c.k) (hk : 0 < c.k)
    (hdec : ∀ cs n y, cs.length = c.k → DataW.trod enc P W base sp held n e cs = some y → ∃ r, cs = c.enc r ∧ Good r y.1)
    (h : DataW.Trod enc P W base sp held t (.slice a len cap) d ps) :
    ∃ l : List α, Recs c W (.slice a len cap) l ∧ Long d l.length ∧ ∀ (i : Nat) (x : α), l[i]? = some x → ∃ y, Good x y ∧ ∃ el spr, d = .slice el spr ∧ el[i]? = some y := by
  obtain ⟨fuel, hf⟩ := h
  rcases Deep.open_slice ht hf with ⟨hcs, hx⟩ | ⟨x, l, c', m, n, D, Pl, hcs, _, hl, hm, hmm, hx, hall⟩
  · simp [Value.cells] at hcs
    obtain ⟨rfl, rfl, rfl⟩ := hcs
    simp at hx
    exact ⟨[], Recs.nil c W, .inl ⟨hx.1, rfl⟩, fun i x h => by simp at h⟩
  · simp [Value.cells] at hcs
    obtain ⟨rfl, rfl, rfl⟩ := hcs
    have hlm : len ≤ m := by rw [hmm]; split <;> omega
    obtain ⟨rfl, _⟩ := Prod.mk.inj hx
    have each : ∀ i, i < len → ∃ r : α, (∀ j u, (c.enc r)[j]? = some u → W.cell? (x.add (i * c.k + j)) = some u) ∧ Good r (D i) := fun i hi => by
      obtain ⟨cs', h1, h2⟩ := hall i (by omega)
      rw [ce] at h1
      obtain ⟨_, hlen, hcell⟩ := World.cells?_some h1
      obtain ⟨r, rfl, hg⟩ := hdec cs' n _ hlen h2
      refine ⟨r, fun j u hu => ?_, hg⟩
      have hj : j < c.k := by rw [← c.len r]; exact (List.getElem?_eq_some_iff.1 hu).1
      have := hcell j hj
      rw [hu, Deep.add_add] at this
      exact this
    by_cases hlen0 : len = 0
    · subst hlen0
      exact ⟨[], ⟨some x, cap, 0, 0, rfl, by simp, by simpa [maxLen] using hm, fun h => absurd h (Nat.lt_irrefl 0), fun j u hu => by simp [Enc.all] at hu⟩, .inr ⟨_, _, rfl, by simp⟩, fun i x h => by simp at h⟩
    · have r0 : α := (each 0 (by omega)).choose
      let q : Nat → α := fun i => if hi : i < len then (each i hi).choose else r0
      have hq : ∀ i, i < len → (∀ j u, (c.enc (q i))[j]? = some u → W.cell? (x.add (i * c.k + j)) = some u) ∧ Good (q i) (D i) := fun i hi => by
        have := (each i hi).choose_spec
        simp only [q, dif_pos hi]
        exact this
      have hlen : ((List.range len).map q).length = len := by simp
      have hx0 : x = ⟨x.block, x.off, none⟩ := by
        have hz : (c.enc (q 0))[0]? ≠ none := fun e => by
          have := List.getElem?_eq_none_iff.1 e
          rw [c.len] at this; omega
        obtain ⟨u, hu⟩ := Option.ne_none_iff_exists'.1 hz
        have h0 := (hq 0 (by omega)).1 0 u hu
        rw [Nat.zero_mul] at h0
        exact addr_of_cell h0
      refine ⟨(List.range len).map q, ⟨some x, cap, x.block, x.off, by rw [hlen], by omega, by simpa [maxLen] using hm, fun _ => congrArg some hx0, fun j u hu => ?_⟩, .inr ⟨_, _, rfl, by simp⟩, fun i y hy => ?_⟩
      · have hj := (List.getElem?_eq_some_iff.1 hu).1
        rw [Enc.all_length, hlen] at hj
        have hd : j / c.k < len := (Nat.div_lt_iff_lt_mul hk).2 hj
        have hm2 : j % c.k < c.k := Nat.mod_lt _ hk
        have hjj : j / c.k * c.k + j % c.k = j := by rw [Nat.mul_comm]; exact Nat.div_add_mod j c.k
        have hget : ((List.range len).map q)[j / c.k]? = some (q (j / c.k)) := by rw [List.getElem?_map, List.getElem?_range hd]; rfl
        obtain ⟨u', hu'⟩ : ∃ u', (c.enc (q (j / c.k)))[j % c.k]? = some u' := ⟨_, List.getElem?_eq_getElem (by rw [c.len]; exact hm2)⟩
        have := Enc.all_at hget hu'
        rw [hjj, hu] at this
        obtain rfl := Option.some.inj this
        have h1 := (hq _ hd).1 _ _ hu'
        rw [hjj, hx0, Addr.add_lit] at h1
        exact later h1
      · have hi : i < len := by have := (List.getElem?_eq_some_iff.1 hy).1; rwa [hlen] at this
        rw [List.getElem?_map, List.getElem?_range hi] at hy
        obtain rfl := Option.some.inj hy
        exact ⟨D i, (hq i hi).2, _, _, rfl, by rw [List.getElem?_map, List.getElem?_range hi]; rfl⟩
end
end Go.Proofs.YtkaoipegbjmlnaaDoor
/-
  WHAT THE BOUND OF THE SECOND FORM GIVES: the length of a slice that came in.
-/


namespace Go.Proofs.YtkaoipegbjmlnaaDoor
open Go.RowKit

theorem bulk_pos {H : Type} (d : DataW H) : 1 ≤ Rows.uptoBulk d := by
  cases d with
  | lit l => cases l <;> simp [Rows.uptoBulk]
  | _ => simp [Rows.uptoBulk]
theorem bulk_len {H : Type} : ∀ l : List (DataW H), l.length ≤ Rows.uptoBulkAll l
  | [] => by simp [Rows.uptoBulkAll]
  | x :: r => by have := bulk_pos x; have := bulk_len r; simp only [Rows.uptoBulkAll, List.length_cons]; omega
theorem bulk_part {H : Type} {d : DataW H} : ∀ {l : List (DataW H)}, d ∈ l → Rows.uptoBulk d ≤ Rows.uptoBulkAll l
  | x :: r, h => by
    simp only [Rows.uptoBulkAll]
    rcases List.mem_cons.1 h with e | e
    · subst e; omega
    · have := bulk_part e; omega
theorem long_small {H : Type} {l : List (DataW H)} (hk : Rows.uptoSmall H l = true) {d : DataW H} (hd : d ∈ l) {n : Nat} (h : Long d n) : n ≤ 1048576 := by
  have hb : Rows.uptoBulkAll l ≤ 1048576 := of_decide_eq_true hk
  have hp := bulk_part hd
  rcases h with ⟨_, rfl⟩ | ⟨el, spr, rfl, rfl⟩
  · omega
  · have := bulk_len el
    simp only [Rows.uptoBulk] at hp
    omega
theorem str_small {H : Type} {l : List (DataW H)} (hk : Rows.uptoSmall H l = true) {s : ByteArray} (h : (DataW.lit (.string s.data.toList) : DataW H) ∈ l) : s.size ≤ 1048576 := by
  have hb : Rows.uptoBulkAll l ≤ 1048576 := of_decide_eq_true hk
  have hp := bulk_part h
  have hs : s.data.toList.length = s.size := by simp
  simp only [Rows.uptoBulk] at hp
  omega
end Go.Proofs.YtkaoipegbjmlnaaDoor
/-
  OPENING ARGUMENTS, over no program: slices of records that stand for something; their bulk.
-/



namespace Go.Proofs.YtkaoipegbjmlnaaDoor
open Go.RowKit Go.ChangeShapes Go.WideShapes
theorem long_bulkD {H : Type} {d : DataW H} {n : Nat} (h : Long d n) : n ≤ Rows.uptoBulk d := by
  rcases h with ⟨_, rfl⟩ | ⟨el, spr, rfl, rfl⟩
  · omega
  · have := bulk_len el
    simp only [Rows.uptoBulk]
    omega
theorem bulk_at {H : Type} {d y : DataW H} {el spr : List (DataW H)} {i : Nat} (hd : d = .slice el spr) (hy : el[i]? = some y) : Rows.uptoBulk y ≤ Rows.uptoBulk d := by
  have := bulk_part (List.mem_of_getElem? hy)
  rw [hd]
  simp only [Rows.uptoBulk]
  omega
theorem small_bulkD {H : Type} {l : List (DataW H)} (hk : Rows.uptoSmall H l = true) {d : DataW H} (hd : d ∈ l) {n : Nat} (h : n ≤ Rows.uptoBulk d) : n ≤ 1048576 := by
  have hb : Rows.uptoBulkAll l ≤ 1048576 := of_decide_eq_true hk
  have hp := bulk_part hd
  omega
section
variable {H : Type} {enc : TypeId × Value → H} {P : Program} {W : World} {base : Nat} {sp : Nat → Bool} {held : Bool}
theorem open_seqs {α β : Type} {c : Enc β} {R : World → β → α → Prop} {B : α → DataW H → Prop} {t e : TypeId} {a : Option Addr} {len cap : Nat} {d : DataW H} {ps : List MemPlace} (ht : P.underlying t = some (.slice e)) (ce : P.cellsOf e = c.k) (hk : 0 < c.k)
    (hdec : ∀ cs n y, cs.length = c.k → DataW.trod enc P W base sp held n e cs = some y → ∃ r x, cs = c.enc r ∧ R W r x ∧ B x y.1)
    (h : DataW.Trod enc P W base sp held t (.slice a len cap) d ps) :
    ∃ l : List α, Seqs c R W (.slice a len cap) l ∧ Long d l.length ∧ ∀ (i : Nat) (x : α), l[i]? = some x → ∃ y, B x y ∧ Rows.uptoBulk y ≤ Rows.uptoBulk d := by
  obtain ⟨t, h1, h2, h3⟩ := open_recs (c := c) (Good := fun r y => ∃ x, R W r x ∧ B x y) ht ce hk (fun cs n y hl hy => by
    obtain ⟨r, x, e, hR, hB⟩ := hdec cs n y hl hy
    exact ⟨r, e, x, hR, hB⟩) h
  have each : ∀ i, i < t.length → ∃ x : α, (∀ r, t[i]? = some r → R W r x) ∧ ∃ y, B x y ∧ Rows.uptoBulk y ≤ Rows.uptoBulk d := fun i hi => by
    obtain ⟨y, ⟨x, hR, hB⟩, el, spr, hd, hy⟩ := h3 i t[i] (List.getElem?_eq_getElem hi)
    refine ⟨x, fun r hr => ?_, y, hB, bulk_at hd hy⟩
    rw [List.getElem?_eq_getElem hi] at hr
    obtain rfl := Option.some.inj hr
    exact hR
  by_cases h0 : t.length = 0
  · have : t = [] := List.eq_nil_of_length_eq_zero h0
    subst this
    exact ⟨[], ⟨[], h1, Both.nil⟩, h2, fun i x h => by simp at h⟩
  · have x0 : α := (each 0 (by omega)).choose
    let q : Nat → α := fun i => if hi : i < t.length then (each i hi).choose else x0
    have hq : ∀ i, i < t.length → (∀ r, t[i]? = some r → R W r (q i)) ∧ ∃ y, B (q i) y ∧ Rows.uptoBulk y ≤ Rows.uptoBulk d := fun i hi => by
      have := (each i hi).choose_spec
      simp only [q, dif_pos hi]
      exact this
    have hlen : ((List.range t.length).map q).length = t.length := by simp
    have hget : ∀ i y, ((List.range t.length).map q)[i]? = some y → i < t.length ∧ y = q i := fun i y hy => by
      have hi : i < t.length := by have := (List.getElem?_eq_some_iff.1 hy).1; rwa [hlen] at this
      rw [List.getElem?_map, List.getElem?_range hi] at hy
      exact ⟨hi, (Option.some.inj hy).symm⟩
    refine ⟨(List.range t.length).map q, ⟨t, h1, hlen.symm, fun i r y hr hy => ?_⟩, by rw [hlen]; exact h2, fun i y hy => ?_⟩
    · obtain ⟨hi, rfl⟩ := hget i y hy
      exact (hq i hi).1 r hr
    · obtain ⟨hi, rfl⟩ := hget i y hy
      exact (hq i hi).2
end
end Go.Proofs.YtkaoipegbjmlnaaDoor
