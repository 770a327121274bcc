/-
  OPENING ARGUMENTS, over no program: a slice that reads as data is a slice of pairs, of integers.
-/
import Derived.Test.YtpifkinlaicliaaGreatDoorZBase
import Derived.ProofKit
import Derived.OpenShut
import Derived.Deep.SlicePairs
import Derived.SizedLaws
import Derived.Test.YtpifkinlaicliaaGreatDoorZDeep
import Derived.Deep.Slices
import Derived.Test.YtpifkinlaicliaaGreatDoorZTab
import Derived.Test.YtpifkinlaicliaaGreatDoorProg
import Derived.Test.YtpifkinlaicliaaGreatDoorRows
import Derived.Test.YtpifkinlaicliaaGreatDoorZQuiet
import Derived.Lib.LaidIn
import Derived.Lib.LaidU8T
import Derived.Deep.DeepHandedRow
import Derived.Deep.DeepWitnessRowRef
namespace Go.Proofs.YtpifkinlaicliaaGreatDoor
open Go.RowKit Go.ChangeShapes Go.WideShapes

theorem spot_none {w : World} {a : Addr} {j : Nat} {v : Value} (h : w.cell? (a.add j) = some v) : a.spot = none ∨ 0 < j := by
  by_cases hj : j = 0
  · subst hj
    simp only [Addr.add, if_true] at h
    left
    unfold World.cell? at h
    split at h
    · split at h
      · cases h
      · rename_i hs; simpa using hs
    · cases h
  · exact .inr (by omega)
theorem addr_of_cell {w : World} {a : Addr} {v : Value} (h : w.cell? (a.add 0) = some v) : a = ⟨a.block, a.off, none⟩ := by
  rcases spot_none h with hs | hs
  · cases a; simp_all
  · omega
section
variable {H : Type} {enc : TypeId × Value → H} {P : Program} {W : World} {base : Nat} {sp : Nat → Bool} {held : Bool}
/-- the reading's shape: nothing, or so many elements -/
def Long (d : DataW H) (n : Nat) : Prop := (d = .nil ∧ n = 0) ∨ ∃ el spr, d = .slice el spr ∧ el.length = n
theorem Long.le {ts : List TypeId} {ds : List (DataW H)} (h : (DataW.weightsEach P ts ds).all (· ≤ reachBytes) = true) {j : Nat} {t e : TypeId} {d : DataW H} {n : Nat} (hl : Long d n) (ht : ts[j]? = some t) (hd : ds[j]? = some d) (hu : P.underlying t = some (.slice e)) {b : Nat} (hb : P.bytesOf e = b) :
    n * b ≤ 140737488351232 := by
  rcases hl with ⟨_, rfl⟩ | ⟨el, spr, rfl, rfl⟩
  · omega
  · have h1 := sized_slice h ht hd hu
    rw [hb] at h1
    have h2 : el.length * b ≤ (el.length + spr.length) * b := Nat.mul_le_mul_right _ (by omega)
    have h3 : reachBytes = 140737488351232 := by decide
    omega
theorem open_prs {t e : TypeId} {f0 f1 : Field} {a : Option Addr} {len cap : Nat} {d : DataW H} {ps : List MemPlace} (ht : P.underlying t = some (.slice e)) (he : P.underlying e = some (.struct #[f0, f1]))
    (ce : P.cellsOf e = 2) (o0 : f0.offset = 0) (o1 : f1.offset = 1) (c0 : P.cellsOf f0.type = 1) (c1 : P.cellsOf f1.type = 1) (i0 : P.underlying f0.type = some (.int .i64)) (i1 : P.underlying f1.type = some (.int .i64))
    (h : DataW.Trod enc P W base sp held t (.slice a len cap) d ps) :
    ∃ l : List (Int × Int), Prs W (.slice a len cap) l ∧ (∀ i, i < l.length → (-9223372036854775808 ≤ p0 l i ∧ p0 l i ≤ 9223372036854775807) ∧ -9223372036854775808 ≤ p1 l i ∧ p1 l i ≤ 9223372036854775807) ∧ Long d l.length := by
  obtain ⟨fuel, hf⟩ := h
  rcases Deep.open_slice_pairs ht he ce o0 o1 c0 c1 hf with ⟨hcs, hx⟩ | ⟨x, l, c, m, n, V0, V1, D0, D1, P0, P1, hcs, _, hl, hm, hmm, hx, hall⟩
  · simp [Value.cells] at hcs
    obtain ⟨rfl, rfl, rfl⟩ := hcs
    simp at hx
    exact ⟨[], Prs.nil W, by simp, .inl ⟨hx.1, rfl⟩⟩
  · simp [Value.cells] at hcs
    obtain ⟨rfl, rfl, rfl⟩ := hcs
    have hlm : len ≤ m := by rw [hmm]; split <;> omega
    have each : ∀ i, i < m → ∃ q : Int × Int, V0 i = .int .i64 q.1 ∧ V1 i = .int .i64 q.2 ∧ (Lit.int .i64 q.1).wf = true ∧ (Lit.int .i64 q.2).wf = true := fun i hi => by
      obtain ⟨_, _, h0, h1⟩ := hall i hi
      obtain ⟨a0, e0, _, w0⟩ := DataW.trod_int i0 h0
      obtain ⟨a1, e1, _, w1⟩ := DataW.trod_int i1 h1
      exact ⟨(a0, a1), by simpa using e0, by simpa using e1, w0, w1⟩
    let q : Nat → Int × Int := fun i => if hi : i < m then (each i hi).choose else (0, 0)
    have hq : ∀ i, i < m → V0 i = .int .i64 (q i).1 ∧ V1 i = .int .i64 (q i).2 ∧ (Lit.int .i64 (q i).1).wf = true ∧ (Lit.int .i64 (q i).2).wf = true := fun i hi => by
      have := (each i hi).choose_spec
      simp only [q, dif_pos hi]
      exact this
    have hlen : ((List.range len).map q).length = len := by simp
    have hget : ∀ i, i < len → ((List.range len).map q).getD i (0, 0) = q i := fun i hi => by simp [List.getD, hi]
    refine ⟨(List.range len).map q, ?_, fun i hi => ?_, .inr ⟨_, _, by simp at hx; exact hx.1, by simp⟩⟩
    · refine ⟨some x, cap, x.block, x.off, by rw [hlen], by omega, by simpa [maxLen] using hm, fun hp => ?_, fun i hi => ?_, fun i hi => ?_⟩
      · rw [hlen] at hp
        have h0 := (hall 0 (by omega)).1
        rw [Nat.zero_mul] at h0
        exact congrArg some (addr_of_cell h0)
      · rw [hlen] at hi
        have h0 := (hall 0 (by omega)).1
        rw [Nat.zero_mul] at h0
        have hx' := addr_of_cell h0
        obtain ⟨g0, _, _, _⟩ := hall i (by omega)
        rw [hx', Addr.add_lit, (hq i (by omega)).1] at g0
        unfold p0
        rw [hget i hi]
        exact later g0
      · rw [hlen] at hi
        have h0 := (hall 0 (by omega)).1
        rw [Nat.zero_mul] at h0
        have hx' := addr_of_cell h0
        obtain ⟨_, g1, _, _⟩ := hall i (by omega)
        rw [hx', Addr.add_lit, (hq i (by omega)).2.1] at g1
        unfold p1
        rw [hget i hi]
        exact later g1
    · rw [hlen] at hi
      unfold p0 p1
      rw [hget i hi]
      exact ⟨bounds_i64 (hq i (by omega)).2.2.1, bounds_i64 (hq i (by omega)).2.2.2⟩
theorem open_ints' {t e : TypeId} {a : Option Addr} {len cap : Nat} {d : DataW H} {ps : List MemPlace} (ht : P.underlying t = some (.slice e)) (he : P.underlying e = some (.int .i64)) (ce : P.cellsOf e = 1)
    (h : DataW.Trod enc P W base sp held t (.slice a len cap) d ps) :
    ∃ l : List Int, Ints W (.slice a len cap) l ∧ (∀ i, i < l.length → -9223372036854775808 ≤ ix l i ∧ ix l i ≤ 9223372036854775807) ∧ Long d l.length := by
  obtain ⟨fuel, hf⟩ := h
  rcases Deep.open_slice ht hf with ⟨hcs, hx⟩ | ⟨x, l, c, m, n, D, Pl, hcs, _, hl, hm, hmm, hx, hall⟩
  · simp [Value.cells] at hcs
    obtain ⟨rfl, rfl, rfl⟩ := hcs
    simp at hx
    exact ⟨[], Ints.nil W, by simp, .inl ⟨hx.1, rfl⟩⟩
  · simp [Value.cells] at hcs
    obtain ⟨rfl, rfl, rfl⟩ := hcs
    have hlm : len ≤ m := by rw [hmm]; split <;> omega
    have each : ∀ i, i < m → ∃ q : Int, W.cell? (x.add i) = some (.int .i64 q) ∧ (Lit.int .i64 q).wf = true := fun i hi => by
      obtain ⟨cs', h1, h2⟩ := hall i hi
      rw [ce, Nat.mul_one] at h1
      obtain ⟨_, hlen, hcell⟩ := World.cells?_some h1
      obtain ⟨q, rfl, _, wq⟩ := DataW.trod_int he h2
      have := hcell 0 (by omega)
      rw [show (x.add i).add 0 = x.add i from if_pos rfl] at this
      exact ⟨q, by simpa using this, wq⟩
    let q : Nat → Int := fun i => if hi : i < m then (each i hi).choose else 0
    have hq : ∀ i, i < m → W.cell? (x.add i) = some (.int .i64 (q i)) ∧ (Lit.int .i64 (q i)).wf = true := fun i hi => by
      have := (each i hi).choose_spec
      simp only [q, dif_pos hi]
      exact this
    have hlen : ((List.range len).map q).length = len := by simp
    have hget : ∀ i, i < len → ix ((List.range len).map q) i = q i := fun i hi => by simp [ix, List.getD, hi]
    refine ⟨(List.range len).map q, ?_, fun i hi => ?_, .inr ⟨_, _, by simp at hx; exact hx.1, by simp⟩⟩
    · refine ⟨some x, cap, x.block, x.off, by rw [hlen], by omega, by simpa [maxLen] using hm, fun hp => ?_, fun i hi => ?_⟩
      · rw [hlen] at hp
        exact congrArg some (addr_of_cell (hq 0 (by omega)).1)
      · rw [hlen] at hi
        have hx' := addr_of_cell (hq 0 (by omega)).1
        have g0 := (hq i (by omega)).1
        rw [hx', Addr.add_lit] at g0
        rw [hget i hi]
        exact later g0
    · rw [hlen] at hi
      rw [hget i hi]
      exact bounds_i64 (hq i (by omega)).2
end
end Go.Proofs.YtpifkinlaicliaaGreatDoor
/-
  OPENING ARGUMENTS, over no program: slices of records, each read by its own decoder.
-/



namespace Go.Proofs.YtpifkinlaicliaaGreatDoor
open Go.RowKit Go.ChangeShapes Go.WideShapes
section
variable {H : Type} {enc : TypeId × Value → H} {P : Program} {W : World} {base : Nat} {sp : Nat → Bool} {held : Bool}
theorem open_recs {α : Type} {c : Enc α} {Good : α → DataW H → Prop} {t e : TypeId} {a : Option Addr} {len cap : Nat} {d : DataW H} {ps : List MemPlace} (ht : P.underlying t = some (.slice e)) (ce : P.cellsOf e = c.k) (hk : 0 < c.k)
    (hdec : ∀ cs n y, cs.length = c.k → DataW.trod enc P W base sp held n e cs = some y → ∃ r, cs = c.enc r ∧ Good r y.1)
    (h : DataW.Trod enc P W base sp held t (.slice a len cap) d ps) :
    ∃ l : List α, Recs c W (.slice a len cap) l ∧ Long d l.length ∧ ∀ (i : Nat) (x : α), l[i]? = some x → ∃ y, Good x y ∧ ∃ el spr, d = .slice el spr ∧ el[i]? = some y := by
  obtain ⟨fuel, hf⟩ := h
  rcases Deep.open_slice ht hf with ⟨hcs, hx⟩ | ⟨x, l, c', m, n, D, Pl, hcs, _, hl, hm, hmm, hx, hall⟩
  · simp [Value.cells] at hcs
    obtain ⟨rfl, rfl, rfl⟩ := hcs
    simp at hx
    exact ⟨[], Recs.nil c W, .inl ⟨hx.1, rfl⟩, fun i x h => by simp at h⟩
  · simp [Value.cells] at hcs
    obtain ⟨rfl, rfl, rfl⟩ := hcs
    have hlm : len ≤ m := by rw [hmm]; split <;> omega
    obtain ⟨rfl, _⟩ := Prod.mk.inj hx
    have each : ∀ i, i < len → ∃ r : α, (∀ j u, (c.enc r)[j]? = some u → W.cell? (x.add (i * c.k + j)) = some u) ∧ Good r (D i) := fun i hi => by
      obtain ⟨cs', h1, h2⟩ := hall i (by omega)
      rw [ce] at h1
      obtain ⟨_, hlen, hcell⟩ := World.cells?_some h1
      obtain ⟨r, rfl, hg⟩ := hdec cs' n _ hlen h2
      refine ⟨r, fun j u hu => ?_, hg⟩
      have hj : j < c.k := by rw [← c.len r]; exact (List.getElem?_eq_some_iff.1 hu).1
      have := hcell j hj
      rw [hu, Deep.add_add] at this
      exact this
    by_cases hlen0 : len = 0
    · subst hlen0
      exact ⟨[], ⟨some x, cap, 0, 0, rfl, by simp, by simpa [maxLen] using hm, fun h => absurd h (Nat.lt_irrefl 0), fun j u hu => by simp [Enc.all] at hu⟩, .inr ⟨_, _, rfl, by simp⟩, fun i x h => by simp at h⟩
    · have r0 : α := (each 0 (by omega)).choose
      let q : Nat → α := fun i => if hi : i < len then (each i hi).choose else r0
      have hq : ∀ i, i < len → (∀ j u, (c.enc (q i))[j]? = some u → W.cell? (x.add (i * c.k + j)) = some u) ∧ Good (q i) (D i) := fun i hi => by
        have := (each i hi).choose_spec
        simp only [q, dif_pos hi]
        exact this
      have hlen : ((List.range len).map q).length = len := by simp
      have hx0 : x = ⟨x.block, x.off, none⟩ := by
        have hz : (c.enc (q 0))[0]? ≠ none := fun e => by
          have := List.getElem?_eq_none_iff.1 e
          rw [c.len] at this; omega
        obtain ⟨u, hu⟩ := Option.ne_none_iff_exists'.1 hz
        have h0 := (hq 0 (by omega)).1 0 u hu
        rw [Nat.zero_mul] at h0
        exact addr_of_cell h0
      refine ⟨(List.range len).map q, ⟨some x, cap, x.block, x.off, by rw [hlen], by omega, by simpa [maxLen] using hm, fun _ => congrArg some hx0, fun j u hu => ?_⟩, .inr ⟨_, _, rfl, by simp⟩, fun i y hy => ?_⟩
      · have hj := (List.getElem?_eq_some_iff.1 hu).1
        rw [Enc.all_length, hlen] at hj
        have hd : j / c.k < len := (Nat.div_lt_iff_lt_mul hk).2 hj
        have hm2 : j % c.k < c.k := Nat.mod_lt _ hk
        have hjj : j / c.k * c.k + j % c.k = j := by rw [Nat.mul_comm]; exact Nat.div_add_mod j c.k
        have hget : ((List.range len).map q)[j / c.k]? = some (q (j / c.k)) := by rw [List.getElem?_map, List.getElem?_range hd]; rfl
        obtain ⟨u', hu'⟩ : ∃ u', (c.enc (q (j / c.k)))[j % c.k]? = some u' := ⟨_, List.getElem?_eq_getElem (by rw [c.len]; exact hm2)⟩
        have := Enc.all_at hget hu'
        rw [hjj, hu] at this
        obtain rfl := Option.some.inj this
        have h1 := (hq _ hd).1 _ _ hu'
        rw [hjj, hx0, Addr.add_lit] at h1
        exact later h1
      · have hi : i < len := by have := (List.getElem?_eq_some_iff.1 hy).1; rwa [hlen] at this
        rw [List.getElem?_map, List.getElem?_range hi] at hy
        obtain rfl := Option.some.inj hy
        exact ⟨D i, (hq i hi).2, _, _, rfl, by rw [List.getElem?_map, List.getElem?_range hi]; rfl⟩
end
end Go.Proofs.YtpifkinlaicliaaGreatDoor
/-
  OPENING SOURCES: their topics, each read by its own decoder; how long their topics are.
-/




namespace Go.Proofs.YtpifkinlaicliaaGreatDoor
open Go.RowKit Go.ChangeShapes Go.WideShapes
section
variable {H : Type} {enc : TypeId × Value → H} {P : Program} {W : World} {base : Nat} {sp : Nat → Bool} {held : Bool}
theorem sl_of {t e : TypeId} {n : Nat} {c : Value} {y : DataW H × List MemPlace} (ht : P.underlying t = some (.slice e)) (h : DataW.trod enc P W base sp held n t [c] = some y) : ∃ s : Sl, c = s.v := by
  rcases Deep.open_slice ht h with ⟨hcs, _⟩ | ⟨x', l', c', _, _, _, _, hcs, _⟩
  · exact ⟨(none, 0, 0), (List.cons.inj hcs).1⟩
  · exact ⟨(some x', l', c'), (List.cons.inj hcs).1⟩
theorem weightsAll_at {e : TypeId} {n : Nat} {y : DataW H} : ∀ {el : List (DataW H)} {i : Nat}, el[i]? = some y → n ∈ y.weights P e → n ∈ DataW.weightsAll P e el
  | [], _, h, _ => by simp at h
  | x :: r, 0, h, hn => by
    simp only [List.getElem?_cons_zero, Option.some.injEq] at h
    subst h
    rw [DataW.weightsAll]
    exact List.mem_append_left _ hn
  | x :: r, i + 1, h, hn => by
    simp only [List.getElem?_cons_succ] at h
    rw [DataW.weightsAll]
    exact List.mem_append_right _ (weightsAll_at h hn)
theorem open_seqs2 {α β : Type} {c : Enc β} {R : World → β → α → Prop} {B : α → DataW H → Prop} {t e : TypeId} {a : Option Addr} {len cap : Nat} {d : DataW H} {ps : List MemPlace} (ht : P.underlying t = some (.slice e)) (ce : P.cellsOf e = c.k) (hk : 0 < c.k)
    (hdec : ∀ cs n y, cs.length = c.k → DataW.trod enc P W base sp held n e cs = some y → ∃ r x, cs = c.enc r ∧ R W r x ∧ B x y.1)
    (h : DataW.Trod enc P W base sp held t (.slice a len cap) d ps) :
    ∃ l : List α, Seqs c R W (.slice a len cap) l ∧ Long d l.length ∧ ∀ (i : Nat) (x : α), l[i]? = some x → ∃ y, B x y ∧ ∃ el spr, d = .slice el spr ∧ el[i]? = some y := by
  obtain ⟨t, h1, h2, h3⟩ := open_recs (c := c) (Good := fun r y => ∃ x, R W r x ∧ B x y) ht ce hk (fun cs n y hl hy => by
    obtain ⟨r, x, e, hR, hB⟩ := hdec cs n y hl hy
    exact ⟨r, e, x, hR, hB⟩) h
  have each : ∀ i, i < t.length → ∃ x : α, (∀ r, t[i]? = some r → R W r x) ∧ ∃ y, B x y ∧ ∃ el spr, d = .slice el spr ∧ el[i]? = some y := fun i hi => by
    obtain ⟨y, ⟨x, hR, hB⟩, el, spr, hd, hy⟩ := h3 i t[i] (List.getElem?_eq_getElem hi)
    refine ⟨x, fun r hr => ?_, y, hB, el, spr, hd, hy⟩
    rw [List.getElem?_eq_getElem hi] at hr
    obtain rfl := Option.some.inj hr
    exact hR
  by_cases h0 : t.length = 0
  · have : t = [] := List.eq_nil_of_length_eq_zero h0
    subst this
    exact ⟨[], ⟨[], h1, Both.nil⟩, h2, fun i x h => by simp at h⟩
  · have x0 : α := (each 0 (by omega)).choose
    let q : Nat → α := fun i => if hi : i < t.length then (each i hi).choose else x0
    have hq : ∀ i, i < t.length → (∀ r, t[i]? = some r → R W r (q i)) ∧ ∃ y, B (q i) y ∧ ∃ el spr, d = .slice el spr ∧ el[i]? = some y := fun i hi => by
      have := (each i hi).choose_spec
      simp only [q, dif_pos hi]
      exact this
    have hlen : ((List.range t.length).map q).length = t.length := by simp
    have hget : ∀ i y, ((List.range t.length).map q)[i]? = some y → i < t.length ∧ y = q i := fun i y hy => by
      have hi : i < t.length := by have := (List.getElem?_eq_some_iff.1 hy).1; rwa [hlen] at this
      rw [List.getElem?_map, List.getElem?_range hi] at hy
      exact ⟨hi, (Option.some.inj hy).symm⟩
    refine ⟨(List.range t.length).map q, ⟨t, h1, hlen.symm, fun i r y hr hy => ?_⟩, by rw [hlen]; exact h2, fun i y hy => ?_⟩
    · obtain ⟨hi, rfl⟩ := hget i y hy
      exact (hq i hi).1 r hr
    · obtain ⟨hi, rfl⟩ := hget i y hy
      exact (hq i hi).2
end
section
variable {H : Type} {enc : TypeId × Value → H} {W : World} {base : Nat} {sp : Nat → Bool} {held : Bool}
set_option maxRecDepth 10000 in
theorem open_tqs {a : Option Addr} {len cap : Nat} {d : DataW H} {ps : List MemPlace} (h : DataW.Trod enc Tryz.prog W base sp held 73 (.slice a len cap) d ps) :
    ∃ l : List Tq, Recs tqE W (.slice a len cap) l ∧ Long d l.length := by
  obtain ⟨l, h1, h2, _⟩ := open_recs (c := tqE) (Good := fun _ _ => True) Tryz.underlying73 (by kernel_rfl) (by decide) (fun cs n y hlen hy => by
    obtain ⟨xs, k, hk, hxy, _, hxl, hf⟩ := DataW.trod_struct Tryz.underlying81 hy
    have hlen : cs.length = 8 := hlen
    match xs, hxl, cs, hlen with
    | [y0, y1, y2, y3, y4, y5, y6, y7], _, [c0, c1, c2, c3, c4, c5, c6, c7], _ =>
      have g0 := hf 0 _ rfl
      have g1 := hf 1 _ rfl
      have g2 := hf 2 _ rfl
      have g3 := hf 3 _ rfl
      have g4 := hf 4 _ rfl
      have g5 := hf 5 _ rfl
      have g6 := hf 6 _ rfl
      have g7 := hf 7 _ rfl
      have k3 : Tryz.prog.cellsOf 3 = 1 := by kernel_rfl
      have k9 : Tryz.prog.cellsOf 9 = 1 := by kernel_rfl
      have k62 : Tryz.prog.cellsOf 77 = 1 := by kernel_rfl
      have k63 : Tryz.prog.cellsOf 78 = 1 := by kernel_rfl
      have k64 : Tryz.prog.cellsOf 79 = 1 := by kernel_rfl
      simp [k3, k9, k62, k63, k64] at g0 g1 g2 g3 g4 g5 g6 g7
      obtain ⟨a0, e0, _⟩ := DataW.trod_int Tryz.underlying3 g0
      obtain ⟨a1, e1, _⟩ := DataW.trod_string Tryz.underlying9 g1
      obtain ⟨a2, e2, _⟩ := DataW.trod_string Tryz.underlying9 g2
      obtain ⟨a3, e3, _⟩ := DataW.trod_int Tryz.underlying3 g3
      obtain ⟨a4, e4⟩ := sl_of Tryz.underlying77 g4
      obtain ⟨a5, e5⟩ := sl_of Tryz.underlying78 g5
      obtain ⟨a6, e6⟩ := sl_of Tryz.underlying79 g6
      obtain ⟨a7, e7, _⟩ := DataW.trod_int Tryz.underlying3 g7
      simp at e0 e1 e2 e3 e7
      subst e0; subst e1; subst e2; subst e3; subst e4; subst e5; subst e6; subst e7
      exact ⟨⟨a0, a1, a2, a3, a4, a5, a6, a7⟩, rfl, trivial⟩) h
  exact ⟨l, h1, h2⟩
theorem long_weight {d : DataW H} {n : Nat} (h : Long d n) : n = 0 ∨ ∃ m ∈ d.weights Tryz.prog 73, n ≤ m := by
  rcases h with ⟨_, rfl⟩ | ⟨el, spr, rfl, rfl⟩
  · exact .inl rfl
  · refine .inr ⟨(el.length + spr.length) * Tryz.prog.bytesOf 81, ?_, ?_⟩
    · simp [DataW.weights, Tryz.underlying73]
    · rw [show Tryz.prog.bytesOf 81 = 128 by kernel_rfl]; omega
set_option maxRecDepth 10000 in
theorem open_sqs {a : Option Addr} {len cap : Nat} {d : DataW H} {ps : List MemPlace} (h : DataW.Trod enc Tryz.prog W base sp held 43 (.slice a len cap) d ps)
    {ts : List TypeId} {ds : List (DataW H)} (hsz : (DataW.weightsEach Tryz.prog ts ds).all (· ≤ reachBytes) = true) {j : Nat} (ht : ts[j]? = some 43) (hd : ds[j]? = some d) :
    ∃ S : List (List Tq), Sqs W (.slice a len cap) S ∧ ∀ T ∈ S, T.length ≤ 140737488355328 := by
  obtain ⟨l, h1, _, h3⟩ := open_seqs2 (c := sqE) (R := SqR) (B := fun T y => T.length = 0 ∨ ∃ m ∈ y.weights Tryz.prog 75, T.length ≤ m) Tryz.underlying43 (by kernel_rfl) (by decide) (fun cs n y hlen hy => by
    obtain ⟨xs, k, hk, hxy, hy1, hxl, hf⟩ := DataW.trod_struct Tryz.underlying75 hy
    have hlen : cs.length = 2 := hlen
    match xs, hxl, cs, hlen with
    | [y0, y1], _, [c0, c1], _ =>
      have g0 := hf 0 _ rfl
      have g1 := hf 1 _ rfl
      have k58 : Tryz.prog.cellsOf 72 = 1 := by kernel_rfl
      have k59 : Tryz.prog.cellsOf 73 = 1 := by kernel_rfl
      simp [k58, k59] at g0 g1
      obtain ⟨a0, rfl⟩ := sl_of Tryz.underlying72 g0
      obtain ⟨⟨a1, n1, p1⟩, rfl⟩ := sl_of Tryz.underlying73 g1
      obtain ⟨T, hT, hl⟩ := open_tqs (enc := enc) (a := a1) (len := n1) (cap := p1) (d := y1.1) (ps := y1.2) ⟨_, g1⟩
      refine ⟨(a0, (a1, n1, p1)), T, rfl, hT, ?_⟩
      rcases long_weight hl with h | ⟨m, hm, hle⟩
      · exact .inl h
      · refine .inr ⟨m, ?_, hle⟩
        rw [hxy]
        simp only [DataW.weights, Tryz.underlying75, List.map_cons, List.map_nil, DataW.weightsEach, List.mem_append]
        exact .inr (.inl hm)) h
  refine ⟨l, h1, fun T hT => ?_⟩
  obtain ⟨i, hi, e⟩ := List.mem_iff_getElem.1 hT
  obtain ⟨y, hy, el, spr, rfl, hel⟩ := h3 i T (by rw [List.getElem?_eq_getElem hi, e])
  rcases hy with h | ⟨m, hm, hl⟩
  · omega
  · have hin : m ∈ DataW.weights Tryz.prog 43 (.slice el spr : DataW H) := by
      simp only [DataW.weights, Tryz.underlying43, List.mem_cons, List.mem_append]
      exact .inr (.inl (weightsAll_at hel hm))
    have h9 := List.all_eq_true.1 hsz _ (DataW.weights_mem_each ht hd m hin)
    have h8 : m ≤ reachBytes := by simpa using h9
    have h7 := reachBytes_lt
    omega
end
end Go.Proofs.YtpifkinlaicliaaGreatDoor
/-
  THE TWO TABLES OF PACKAGE utf8, AS THIS SEAT's ROWS LIST THEM: what the list gives; a world that holds them.
-/







namespace Go.Proofs.YtpifkinlaicliaaGreatDoor
open Go.Shelf Go.Lib Go.RowKit

theorem first_eq : (Rows.laid_unicode_utf8_first : DataW Unit) = Lib.firstData := by kernel_rfl
theorem accept_eq : (Rows.laid_unicode_utf8_acceptRanges : DataW Unit) = Lib.acceptData := by kernel_rfl
theorem utf8Tabs_old {w W : World} {a b : Nat} (h : Lib.Utf8Tabs a b w) (o : Old w W) : Lib.Utf8Tabs a b W :=
  ⟨fun c hc => o.cell (h.1 c hc), fun i hi => ⟨o.cell (h.2 i hi).1, o.cell (h.2 i hi).2⟩⟩
theorem tabs_of {l : List (String × DataW Unit)} {W : World} (h : laidMet Tryz.prog l W) (h1 : ("unicode/utf8.first", (Rows.laid_unicode_utf8_first : DataW Unit)) ∈ l) (h2 : ("unicode/utf8.acceptRanges", (Rows.laid_unicode_utf8_acceptRanges : DataW Unit)) ∈ l) : Tabs W := by
  have r1 := Lib.laidMet.reads h h1
  have r2 := Lib.laidMet.reads h h2
  rw [first_eq] at r1
  rw [accept_eq] at r2
  have := utf8Tabs_of_readsT (U8Types.of260 Tryz.lays260) ⟨by kernel_rfl, by kernel_rfl, by kernel_rfl, by kernel_rfl, by kernel_rfl, by kernel_rfl, by kernel_rfl⟩ r1 r2
  exact fun V o => utf8Tabs_old this o
noncomputable def laidWorld (os : Os) : World :=
  let w0 := World.holding Tryz.prog os ⟨#[], #[], []⟩
  let put (h : Array Obj) (g : Nat) (cs : Array Value) : Array Obj := h.modify g fun
    | .cells _ t frozen => .cells cs t frozen
    | o => o
  let h1 := put w0.heap 1 (Lib.firstTab.map fun z => Value.int .u8 z).toArray
  let h2 := put h1 2 ((List.range 16).flatMap fun i => [Value.int .u8 (Lib.accLo i), Value.int .u8 (Lib.accHi i)]).toArray
  { w0 with heap := h2 }
theorem laid_met (os : Os) (args : Array Value) : laidMet Tryz.prog [("unicode/utf8.acceptRanges", (Rows.laid_unicode_utf8_acceptRanges : DataW Unit)), ("unicode/utf8.first", Rows.laid_unicode_utf8_first)] ((laidWorld os).forCall (fun _ _ => 0) ⟨#[], args, []⟩).memory := by
  rw [first_eq, accept_eq]
  exact (LaidIn.of_run (l := [("unicode/utf8.acceptRanges", Lib.acceptData), ("unicode/utf8.first", Lib.firstData)]) [2, 1] 8 (by kernel_rfl) (by kernel_rfl) (by kernel_rfl) (by kernel_rfl)).met
end Go.Proofs.YtpifkinlaicliaaGreatDoor
