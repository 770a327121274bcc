/-
  OPENING ARGUMENTS: slices of slices of bytes, slices of texts; their bulk.
-/
import Derived.Test.YtaclkoipobgmkaaDoorBulk
import Derived.Test.YtaclkoipobgmkaaDoorOpenN
import Derived.Test.YtaclkoipobgmkaaDoorOctWalksA
import Derived.Deep.Slices
import Derived.SliceStrings
import Derived.ChangeMaps5
namespace Go.Proofs.YtaclkoipobgmkaaDoor
open Go.RowKit Go.ChangeShapes Go.WideShapes

/-- v: a slice of lists of bytes -/
def Lists (w : World) (v : Value) (L : List (List Int)) : Prop :=
  ∃ a cap b off, v = .slice a L.length cap ∧ L.length ≤ cap ∧ cap ≤ 9223372036854775807 ∧ (0 < L.length → a = some ⟨b, off, none⟩) ∧
    ∀ i, i < L.length → ∃ u, (∀ W, Old w W → W.cell? ⟨b, off + i, none⟩ = some u) ∧ Nums .u8 w u (L.getD i [])
theorem Lists.form {w : World} {v : Value} {L : List (List Int)} (h : Lists w v L) : ∃ a cap, v = .slice a L.length cap ∧ L.length ≤ cap ∧ cap ≤ 9223372036854775807 := by
  obtain ⟨a, cap, b, off, e, h1, h2, _⟩ := h; exact ⟨a, cap, e, h1, h2⟩
/-- v: a slice of texts -/
def Texts (w : World) (v : Value) (L : List ByteArray) : Prop :=
  ∃ a cap b off, v = .slice a L.length cap ∧ L.length ≤ cap ∧ cap ≤ 9223372036854775807 ∧ (0 < L.length → a = some ⟨b, off, none⟩) ∧
    ∀ i, i < L.length → ∀ W, Old w W → W.cell? ⟨b, off + i, none⟩ = some (.string (L.getD i ⟨#[]⟩))
theorem Texts.form {w : World} {v : Value} {L : List ByteArray} (h : Texts w v L) : ∃ a cap, v = .slice a L.length cap ∧ L.length ≤ cap ∧ cap ≤ 9223372036854775807 := by
  obtain ⟨a, cap, b, off, e, h1, h2, _⟩ := h; exact ⟨a, cap, e, h1, h2⟩
theorem long_bulk {H : Type} {d : DataW H} {n : Nat} (h : Long d n) : n ≤ Rows.uptoBulk d := by
  rcases h with ⟨_, rfl⟩ | ⟨el, spr, rfl, rfl⟩
  · omega
  · have := bulk_len el
    simp only [Rows.uptoBulk]
    omega
theorem bulk_elem {H : Type} {D : Nat → DataW H} {len i : Nat} {spr : List (DataW H)} (hi : i < len) : Rows.uptoBulk (D i) ≤ Rows.uptoBulk (.slice ((List.range len).map D) spr) := by
  have := bulk_part (List.mem_map.2 ⟨i, List.mem_range.2 hi, rfl⟩ : D i ∈ (List.range len).map D)
  simp only [Rows.uptoBulk]
  omega
theorem small_of_bulk {H : Type} {l : List (DataW H)} (hk : Rows.uptoSmall H l = true) {d : DataW H} (hd : d ∈ l) {n : Nat} (h : n ≤ Rows.uptoBulk d) : n ≤ 1048576 := by
  have hb : Rows.uptoBulkAll l ≤ 1048576 := of_decide_eq_true hk
  have hp := bulk_part hd
  omega
section
variable {H : Type} {enc : TypeId × Value → H} {P : Program} {W : World} {base : Nat} {sp : Nat → Bool} {held : Bool}
theorem open_lists {t e b : TypeId} {a : Option Addr} {len cap : Nat} {d : DataW H} {ps : List MemPlace} (ht : P.underlying t = some (.slice e)) (he : P.underlying e = some (.slice b)) (hb : P.underlying b = some (.int .u8)) (cb : P.cellsOf b = 1) (ce : P.cellsOf e = 1)
    (h : DataW.Trod enc P W base sp held t (.slice a len cap) d ps) :
    ∃ L : List (List Int), Lists W (.slice a len cap) L ∧ (∀ i, Byt (L.getD i [])) ∧ Long d L.length ∧ ∀ i, (L.getD i []).length ≤ Rows.uptoBulk d := by
  obtain ⟨fuel, hf⟩ := h
  rcases Deep.open_slice1 ht ce hf with ⟨hcs, hx⟩ | ⟨x, l, c, m, n, V, D, Pl, hcs, _, hl, hm, hmm, hx, hall⟩
  · simp [Value.cells] at hcs
    obtain ⟨rfl, rfl, rfl⟩ := hcs
    simp at hx
    exact ⟨[], ⟨none, 0, 0, 0, rfl, by simp, by simp, by simp, by simp⟩, fun i j hj => by simp at hj, .inl ⟨hx.1, rfl⟩, by simp⟩
  · simp [Value.cells] at hcs
    obtain ⟨rfl, rfl, rfl⟩ := hcs
    have hlm : len ≤ m := by rw [hmm]; split <;> omega
    obtain ⟨rfl, _⟩ := Prod.mk.inj hx
    have each : ∀ i, i < len → ∃ q : List Int, Nums .u8 W (V i) q ∧ Byt q ∧ q.length ≤ Rows.uptoBulk (D i) := fun i hi => by
      obtain ⟨h1, h2⟩ := hall i (by omega)
      have hV : ∃ a' l' c', V i = .slice a' l' c' := by
        rcases Deep.open_slice he h2 with ⟨h3, _⟩ | ⟨x', l', c', _, _, _, _, h3, _⟩
        · exact ⟨none, 0, 0, by simpa using h3⟩
        · exact ⟨some x', l', c', by simpa using h3⟩
      obtain ⟨a', l', c', hV⟩ := hV
      obtain ⟨q, hq, hw, hl'⟩ := open_nums (k := .u8) he hb cb (a := a') (len := l') (cap := c') (d := D i) (ps := Pl i) ⟨n, by rw [← hV]; rw [hV] at h2 ⊢; exact h2⟩
      exact ⟨q, by rw [hV]; exact hq, fun j hj => bounds_u8 (hw j hj), long_bulk hl'⟩
    let q : Nat → List Int := fun i => if hi : i < len then (each i hi).choose else []
    have hq : ∀ i, i < len → Nums .u8 W (V i) (q i) ∧ Byt (q i) ∧ (q i).length ≤ Rows.uptoBulk (D i) := fun i hi => by
      have := (each i hi).choose_spec
      simp only [q, dif_pos hi]
      exact this
    have hlen : ((List.range len).map q).length = len := by simp
    have hget : ∀ i, i < len → ((List.range len).map q).getD i [] = q i := fun i hi => by simp [List.getD, hi]
    have hget' : ∀ i, ¬ i < len → ((List.range len).map q).getD i [] = [] := fun i hi => by simp only [List.getD]; rw [List.getElem?_eq_none (by rw [hlen]; omega)]; rfl
    refine ⟨(List.range len).map q, ⟨some x, cap, x.block, x.off, by rw [hlen], by omega, by simpa [maxLen] using hm, fun hp => ?_, fun i hi => ?_⟩, fun i => ?_, .inr ⟨_, _, rfl, by simp⟩, fun i => ?_⟩
    · rw [hlen] at hp
      exact congrArg some (addr_of_cell (hall 0 (by omega)).1)
    · rw [hlen] at hi
      have hx' := addr_of_cell (hall 0 (by omega)).1
      have g0 := (hall i (by omega)).1
      rw [hx', Addr.add_lit] at g0
      rw [hget i hi]
      exact ⟨V i, later g0, (hq i hi).1⟩
    · by_cases hi : i < len
      · rw [hget i hi]; exact (hq i hi).2.1
      · rw [hget' i hi]; intro j hj; simp at hj
    · by_cases hi : i < len
      · rw [hget i hi]; exact Nat.le_trans (hq i hi).2.2 (bulk_elem hi)
      · rw [hget' i hi]; simp
theorem open_texts {t e : TypeId} {a : Option Addr} {len cap : Nat} {d : DataW H} {ps : List MemPlace} (ht : P.underlying t = some (.slice e)) (he : P.underlying e = some .string) (ce : P.cellsOf e = 1)
    (h : DataW.Trod enc P W base sp held t (.slice a len cap) d ps) :
    ∃ L : List ByteArray, Texts W (.slice a len cap) L ∧ (∀ i, (L.getD i ⟨#[]⟩).size ≤ 9223372036854775807) ∧ Long d L.length ∧ ∀ i, (L.getD i ⟨#[]⟩).size ≤ Rows.uptoBulk d := by
  obtain ⟨fuel, hf⟩ := h
  rcases Deep.open_slice1 ht ce hf with ⟨hcs, hx⟩ | ⟨x, l, c, m, n, V, D, Pl, hcs, _, hl, hm, hmm, hx, hall⟩
  · simp [Value.cells] at hcs
    obtain ⟨rfl, rfl, rfl⟩ := hcs
    simp at hx
    exact ⟨[], ⟨none, 0, 0, 0, rfl, by simp, by simp, by simp, by simp⟩, fun i => by simp [ByteArray.size], .inl ⟨hx.1, rfl⟩, fun i => by simp [ByteArray.size]⟩
  · simp [Value.cells] at hcs
    obtain ⟨rfl, rfl, rfl⟩ := hcs
    have hlm : len ≤ m := by rw [hmm]; split <;> omega
    obtain ⟨rfl, _⟩ := Prod.mk.inj hx
    have each : ∀ i, i < len → ∃ q : ByteArray, V i = .string q ∧ q.size ≤ 9223372036854775807 ∧ q.size ≤ Rows.uptoBulk (D i) := fun i hi => by
      obtain ⟨h1, h2⟩ := hall i (by omega)
      obtain ⟨s, h3, h4, h5⟩ := DataW.trod_string he h2
      have h6 := congrArg Prod.fst h4
      refine ⟨s, by simpa using h3, by simpa [maxLen] using h5, ?_⟩
      rw [show D i = .lit (.string s.data.toList) from h6]
      have hs : s.data.toList.length = s.size := by simp
      simp only [Rows.uptoBulk]
      omega
    let q : Nat → ByteArray := fun i => if hi : i < len then (each i hi).choose else ⟨#[]⟩
    have hq : ∀ i, i < len → V i = .string (q i) ∧ (q i).size ≤ 9223372036854775807 ∧ (q i).size ≤ Rows.uptoBulk (D i) := fun i hi => by
      have := (each i hi).choose_spec
      simp only [q, dif_pos hi]
      exact this
    have hlen : ((List.range len).map q).length = len := by simp
    have hget : ∀ i, i < len → ((List.range len).map q).getD i ⟨#[]⟩ = q i := fun i hi => by simp [List.getD, hi]
    have hget' : ∀ i, ¬ i < len → ((List.range len).map q).getD i ⟨#[]⟩ = ⟨#[]⟩ := fun i hi => by simp only [List.getD]; rw [List.getElem?_eq_none (by rw [hlen]; omega)]; rfl
    refine ⟨(List.range len).map q, ⟨some x, cap, x.block, x.off, by rw [hlen], by omega, by simpa [maxLen] using hm, fun hp => ?_, fun i hi => ?_⟩, fun i => ?_, .inr ⟨_, _, rfl, by simp⟩, fun i => ?_⟩
    · rw [hlen] at hp
      exact congrArg some (addr_of_cell (hall 0 (by omega)).1)
    · rw [hlen] at hi
      have hx' := addr_of_cell (hall 0 (by omega)).1
      have g0 := (hall i (by omega)).1
      rw [hx', Addr.add_lit, (hq i hi).1] at g0
      rw [hget i hi]
      exact later g0
    · by_cases hi : i < len
      · rw [hget i hi]; exact (hq i hi).2.1
      · rw [hget' i hi]; simp [ByteArray.size]
    · by_cases hi : i < len
      · rw [hget i hi]; exact Nat.le_trans (hq i hi).2.2 (bulk_elem hi)
      · rw [hget' i hi]; simp [ByteArray.size]
end
end Go.Proofs.YtaclkoipobgmkaaDoor
