/-
  OPENING ARGUMENTS, over no program: a slice that reads as data is a slice of pairs, of integers.
-/
import Derived.Test.YtpifkinlaicliaaGreatDoorZBase
import Derived.ProofKit
import Derived.OpenShut
import Derived.Deep.SlicePairs
import Derived.SizedLaws
import Derived.Test.YtpifkinlaicliaaGreatDoorZRecs
import Derived.Deep.Slices
namespace Go.Proofs.YtpifkinlaicliaaGreatDoor
open Go.RowKit Go.ChangeShapes Go.WideShapes

theorem spot_none {w : World} {a : Addr} {j : Nat} {v : Value} (h : w.cell? (a.add j) = some v) : a.spot = none ∨ 0 < j := by
  by_cases hj : j = 0
  · subst hj
    simp only [Addr.add, if_true] at h
    left
    unfold World.cell? at h
    split at h
    · split at h
      · cases h
      · rename_i hs; simpa using hs
    · cases h
  · exact .inr (by omega)
theorem addr_of_cell {w : World} {a : Addr} {v : Value} (h : w.cell? (a.add 0) = some v) : a = ⟨a.block, a.off, none⟩ := by
  rcases spot_none h with hs | hs
  · cases a; simp_all
  · omega
section
variable {H : Type} {enc : TypeId × Value → H} {P : Program} {W : World} {base : Nat} {sp : Nat → Bool} {held : Bool}
/-- the reading's shape: nothing, or so many elements -/
def Long (d : DataW H) (n : Nat) : Prop := (d = .nil ∧ n = 0) ∨ ∃ el spr, d = .slice el spr ∧ el.length = n
theorem Long.le {ts : List TypeId} {ds : List (DataW H)} (h : (DataW.weightsEach P ts ds).all (· ≤ reachBytes) = true) {j : Nat} {t e : TypeId} {d : DataW H} {n : Nat} (hl : Long d n) (ht : ts[j]? = some t) (hd : ds[j]? = some d) (hu : P.underlying t = some (.slice e)) {b : Nat} (hb : P.bytesOf e = b) :
    n * b ≤ 140737488351232 := by
  rcases hl with ⟨_, rfl⟩ | ⟨el, spr, rfl, rfl⟩
  · omega
  · have h1 := sized_slice h ht hd hu
    rw [hb] at h1
    have h2 : el.length * b ≤ (el.length + spr.length) * b := Nat.mul_le_mul_right _ (by omega)
    have h3 : reachBytes = 140737488351232 := by decide
    omega
theorem open_prs {t e : TypeId} {f0 f1 : Field} {a : Option Addr} {len cap : Nat} {d : DataW H} {ps : List MemPlace} (ht : P.underlying t = some (.slice e)) (he : P.underlying e = some (.struct #[f0, f1]))
    (ce : P.cellsOf e = 2) (o0 : f0.offset = 0) (o1 : f1.offset = 1) (c0 : P.cellsOf f0.type = 1) (c1 : P.cellsOf f1.type = 1) (i0 : P.underlying f0.type = some (.int .i64)) (i1 : P.underlying f1.type = some (.int .i64))
    (h : DataW.Trod enc P W base sp held t (.slice a len cap) d ps) :
    ∃ l : List (Int × Int), Prs W (.slice a len cap) l ∧ (∀ i, i < l.length → (-9223372036854775808 ≤ p0 l i ∧ p0 l i ≤ 9223372036854775807) ∧ -9223372036854775808 ≤ p1 l i ∧ p1 l i ≤ 9223372036854775807) ∧ Long d l.length := by
  obtain ⟨fuel, hf⟩ := h
  rcases Deep.open_slice_pairs ht he ce o0 o1 c0 c1 hf with ⟨hcs, hx⟩ | ⟨x, l, c, m, n, V0, V1, D0, D1, P0, P1, hcs, _, hl, hm, hmm, hx, hall⟩
  · simp [Value.cells] at hcs
    obtain ⟨rfl, rfl, rfl⟩ := hcs
    simp at hx
    exact ⟨[], Prs.nil W, by simp, .inl ⟨hx.1, rfl⟩⟩
  · simp [Value.cells] at hcs
    obtain ⟨rfl, rfl, rfl⟩ := hcs
    have hlm : len ≤ m := by rw [hmm]; split <;> omega
    have each : ∀ i, i < m → ∃ q : Int × Int, V0 i = .int .i64 q.1 ∧ V1 i = .int .i64 q.2 ∧ (Lit.int .i64 q.1).wf = true ∧ (Lit.int .i64 q.2).wf = true := fun i hi => by
      obtain ⟨_, _, h0, h1⟩ := hall i hi
      obtain ⟨a0, e0, _, w0⟩ := DataW.trod_int i0 h0
      obtain ⟨a1, e1, _, w1⟩ := DataW.trod_int i1 h1
      exact ⟨(a0, a1), by simpa using e0, by simpa using e1, w0, w1⟩
    let q : Nat → Int × Int := fun i => if hi : i < m then (each i hi).choose else (0, 0)
    have hq : ∀ i, i < m → V0 i = .int .i64 (q i).1 ∧ V1 i = .int .i64 (q i).2 ∧ (Lit.int .i64 (q i).1).wf = true ∧ (Lit.int .i64 (q i).2).wf = true := fun i hi => by
      have := (each i hi).choose_spec
      simp only [q, dif_pos hi]
      exact this
    have hlen : ((List.range len).map q).length = len := by simp
    have hget : ∀ i, i < len → ((List.range len).map q).getD i (0, 0) = q i := fun i hi => by simp [List.getD, hi]
    refine ⟨(List.range len).map q, ?_, fun i hi => ?_, .inr ⟨_, _, by simp at hx; exact hx.1, by simp⟩⟩
    · refine ⟨some x, cap, x.block, x.off, by rw [hlen], by omega, by simpa [maxLen] using hm, fun hp => ?_, fun i hi => ?_, fun i hi => ?_⟩
      · rw [hlen] at hp
        have h0 := (hall 0 (by omega)).1
        rw [Nat.zero_mul] at h0
        exact congrArg some (addr_of_cell h0)
      · rw [hlen] at hi
        have h0 := (hall 0 (by omega)).1
        rw [Nat.zero_mul] at h0
        have hx' := addr_of_cell h0
        obtain ⟨g0, _, _, _⟩ := hall i (by omega)
        rw [hx', Addr.add_lit, (hq i (by omega)).1] at g0
        unfold p0
        rw [hget i hi]
        exact later g0
      · rw [hlen] at hi
        have h0 := (hall 0 (by omega)).1
        rw [Nat.zero_mul] at h0
        have hx' := addr_of_cell h0
        obtain ⟨_, g1, _, _⟩ := hall i (by omega)
        rw [hx', Addr.add_lit, (hq i (by omega)).2.1] at g1
        unfold p1
        rw [hget i hi]
        exact later g1
    · rw [hlen] at hi
      unfold p0 p1
      rw [hget i hi]
      exact ⟨bounds_i64 (hq i (by omega)).2.2.1, bounds_i64 (hq i (by omega)).2.2.2⟩
theorem open_ints' {t e : TypeId} {a : Option Addr} {len cap : Nat} {d : DataW H} {ps : List MemPlace} (ht : P.underlying t = some (.slice e)) (he : P.underlying e = some (.int .i64)) (ce : P.cellsOf e = 1)
    (h : DataW.Trod enc P W base sp held t (.slice a len cap) d ps) :
    ∃ l : List Int, Ints W (.slice a len cap) l ∧ (∀ i, i < l.length → -9223372036854775808 ≤ ix l i ∧ ix l i ≤ 9223372036854775807) ∧ Long d l.length := by
  obtain ⟨fuel, hf⟩ := h
  rcases Deep.open_slice ht hf with ⟨hcs, hx⟩ | ⟨x, l, c, m, n, D, Pl, hcs, _, hl, hm, hmm, hx, hall⟩
  · simp [Value.cells] at hcs
    obtain ⟨rfl, rfl, rfl⟩ := hcs
    simp at hx
    exact ⟨[], Ints.nil W, by simp, .inl ⟨hx.1, rfl⟩⟩
  · simp [Value.cells] at hcs
    obtain ⟨rfl, rfl, rfl⟩ := hcs
    have hlm : len ≤ m := by rw [hmm]; split <;> omega
    have each : ∀ i, i < m → ∃ q : Int, W.cell? (x.add i) = some (.int .i64 q) ∧ (Lit.int .i64 q).wf = true := fun i hi => by
      obtain ⟨cs', h1, h2⟩ := hall i hi
      rw [ce, Nat.mul_one] at h1
      obtain ⟨_, hlen, hcell⟩ := World.cells?_some h1
      obtain ⟨q, rfl, _, wq⟩ := DataW.trod_int he h2
      have := hcell 0 (by omega)
      rw [show (x.add i).add 0 = x.add i from if_pos rfl] at this
      exact ⟨q, by simpa using this, wq⟩
    let q : Nat → Int := fun i => if hi : i < m then (each i hi).choose else 0
    have hq : ∀ i, i < m → W.cell? (x.add i) = some (.int .i64 (q i)) ∧ (Lit.int .i64 (q i)).wf = true := fun i hi => by
      have := (each i hi).choose_spec
      simp only [q, dif_pos hi]
      exact this
    have hlen : ((List.range len).map q).length = len := by simp
    have hget : ∀ i, i < len → ix ((List.range len).map q) i = q i := fun i hi => by simp [ix, List.getD, hi]
    refine ⟨(List.range len).map q, ?_, fun i hi => ?_, .inr ⟨_, _, by simp at hx; exact hx.1, by simp⟩⟩
    · refine ⟨some x, cap, x.block, x.off, by rw [hlen], by omega, by simpa [maxLen] using hm, fun hp => ?_, fun i hi => ?_⟩
      · rw [hlen] at hp
        exact congrArg some (addr_of_cell (hq 0 (by omega)).1)
      · rw [hlen] at hi
        have hx' := addr_of_cell (hq 0 (by omega)).1
        have g0 := (hq i (by omega)).1
        rw [hx', Addr.add_lit] at g0
        rw [hget i hi]
        exact later g0
    · rw [hlen] at hi
      rw [hget i hi]
      exact bounds_i64 (hq i (by omega)).2
end
end Go.Proofs.YtpifkinlaicliaaGreatDoor
/-
  OPENING ARGUMENTS, over no program: slices of records, each read by its own decoder.
-/



namespace Go.Proofs.YtpifkinlaicliaaGreatDoor
open Go.RowKit Go.ChangeShapes Go.WideShapes
section
variable {H : Type} {enc : TypeId × Value → H} {P : Program} {W : World} {base : Nat} {sp : Nat → Bool} {held : Bool}
theorem open_recs {α : Type} {c : Enc α} {Good : α → DataW H → Prop} {t e : TypeId} {a : Option Addr} {len cap : Nat} {d : DataW H} {ps : List MemPlace} (ht : P.underlying t = some (.slice e)) (ce : P.cellsOf e = c.k) (hk : 0 < c.k)
    (hdec : ∀ cs n y, cs.length = c.k → DataW.trod enc P W base sp held n e cs = some y → ∃ r, cs = c.enc r ∧ Good r y.1)
    (h : DataW.Trod enc P W base sp held t (.slice a len cap) d ps) :
    ∃ l : List α, Recs c W (.slice a len cap) l ∧ Long d l.length ∧ ∀ (i : Nat) (x : α), l[i]? = some x → ∃ y, Good x y ∧ ∃ el spr, d = .slice el spr ∧ el[i]? = some y := by
  obtain ⟨fuel, hf⟩ := h
  rcases Deep.open_slice ht hf with ⟨hcs, hx⟩ | ⟨x, l, c', m, n, D, Pl, hcs, _, hl, hm, hmm, hx, hall⟩
  · simp [Value.cells] at hcs
    obtain ⟨rfl, rfl, rfl⟩ := hcs
    simp at hx
    exact ⟨[], Recs.nil c W, .inl ⟨hx.1, rfl⟩, fun i x h => by simp at h⟩
  · simp [Value.cells] at hcs
    obtain ⟨rfl, rfl, rfl⟩ := hcs
    have hlm : len ≤ m := by rw [hmm]; split <;> omega
    obtain ⟨rfl, _⟩ := Prod.mk.inj hx
    have each : ∀ i, i < len → ∃ r : α, (∀ j u, (c.enc r)[j]? = some u → W.cell? (x.add (i * c.k + j)) = some u) ∧ Good r (D i) := fun i hi => by
      obtain ⟨cs', h1, h2⟩ := hall i (by omega)
      rw [ce] at h1
      obtain ⟨_, hlen, hcell⟩ := World.cells?_some h1
      obtain ⟨r, rfl, hg⟩ := hdec cs' n _ hlen h2
      refine ⟨r, fun j u hu => ?_, hg⟩
      have hj : j < c.k := by rw [← c.len r]; exact (List.getElem?_eq_some_iff.1 hu).1
      have := hcell j hj
      rw [hu, Deep.add_add] at this
      exact this
    by_cases hlen0 : len = 0
    · subst hlen0
      exact ⟨[], ⟨some x, cap, 0, 0, rfl, by simp, by simpa [maxLen] using hm, fun h => absurd h (Nat.lt_irrefl 0), fun j u hu => by simp [Enc.all] at hu⟩, .inr ⟨_, _, rfl, by simp⟩, fun i x h => by simp at h⟩
    · have r0 : α := (each 0 (by omega)).choose
      let q : Nat → α := fun i => if hi : i < len then (each i hi).choose else r0
      have hq : ∀ i, i < len → (∀ j u, (c.enc (q i))[j]? = some u → W.cell? (x.add (i * c.k + j)) = some u) ∧ Good (q i) (D i) := fun i hi => by
        have := (each i hi).choose_spec
        simp only [q, dif_pos hi]
        exact this
      have hlen : ((List.range len).map q).length = len := by simp
      have hx0 : x = ⟨x.block, x.off, none⟩ := by
        have hz : (c.enc (q 0))[0]? ≠ none := fun e => by
          have := List.getElem?_eq_none_iff.1 e
          rw [c.len] at this; omega
        obtain ⟨u, hu⟩ := Option.ne_none_iff_exists'.1 hz
        have h0 := (hq 0 (by omega)).1 0 u hu
        rw [Nat.zero_mul] at h0
        exact addr_of_cell h0
      refine ⟨(List.range len).map q, ⟨some x, cap, x.block, x.off, by rw [hlen], by omega, by simpa [maxLen] using hm, fun _ => congrArg some hx0, fun j u hu => ?_⟩, .inr ⟨_, _, rfl, by simp⟩, fun i y hy => ?_⟩
      · have hj := (List.getElem?_eq_some_iff.1 hu).1
        rw [Enc.all_length, hlen] at hj
        have hd : j / c.k < len := (Nat.div_lt_iff_lt_mul hk).2 hj
        have hm2 : j % c.k < c.k := Nat.mod_lt _ hk
        have hjj : j / c.k * c.k + j % c.k = j := by rw [Nat.mul_comm]; exact Nat.div_add_mod j c.k
        have hget : ((List.range len).map q)[j / c.k]? = some (q (j / c.k)) := by rw [List.getElem?_map, List.getElem?_range hd]; rfl
        obtain ⟨u', hu'⟩ : ∃ u', (c.enc (q (j / c.k)))[j % c.k]? = some u' := ⟨_, List.getElem?_eq_getElem (by rw [c.len]; exact hm2)⟩
        have := Enc.all_at hget hu'
        rw [hjj, hu] at this
        obtain rfl := Option.some.inj this
        have h1 := (hq _ hd).1 _ _ hu'
        rw [hjj, hx0, Addr.add_lit] at h1
        exact later h1
      · have hi : i < len := by have := (List.getElem?_eq_some_iff.1 hy).1; rwa [hlen] at this
        rw [List.getElem?_map, List.getElem?_range hi] at hy
        obtain rfl := Option.some.inj hy
        exact ⟨D i, (hq i hi).2, _, _, rfl, by rw [List.getElem?_map, List.getElem?_range hi]; rfl⟩
end
end Go.Proofs.YtpifkinlaicliaaGreatDoor
