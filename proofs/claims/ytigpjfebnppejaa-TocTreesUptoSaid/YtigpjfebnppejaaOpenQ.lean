/-
  OPENING ARGUMENTS: slices of slices of numbers; their bulk.
-/
import Derived.Test.YtigpjfebnppejaaBulk
import Derived.Test.YtigpjfebnppejaaOpenN
import Derived.Deep.Slices
namespace Go.Proofs.Ytigpjfebnppejaa
open Go.RowKit Go.ChangeShapes Go.WideShapes

/-- v: a slice of lists of numbers of a kind -/
def Lists (kd : IntKind) (w : World) (v : Value) (L : List (List Int)) : Prop :=
  ∃ a cap b off, v = .slice a L.length cap ∧ L.length ≤ cap ∧ cap ≤ 9223372036854775807 ∧ (0 < L.length → a = some ⟨b, off, none⟩) ∧
    ∀ i, i < L.length → ∃ u, (∀ W, Old w W → W.cell? ⟨b, off + i, none⟩ = some u) ∧ Nums kd w u (L.getD i [])
theorem Lists.form {kd : IntKind} {w : World} {v : Value} {L : List (List Int)} (h : Lists kd w v L) : ∃ a cap, v = .slice a L.length cap ∧ L.length ≤ cap ∧ cap ≤ 9223372036854775807 := by
  obtain ⟨a, cap, b, off, e, h1, h2, _⟩ := h; exact ⟨a, cap, e, h1, h2⟩
theorem long_bulk {H : Type} {d : DataW H} {n : Nat} (h : Long d n) : n ≤ Rows.uptoBulk d := by
  rcases h with ⟨_, rfl⟩ | ⟨el, spr, rfl, rfl⟩
  · omega
  · have := bulk_len el
    simp only [Rows.uptoBulk]
    omega
theorem bulk_elem {H : Type} {D : Nat → DataW H} {len i : Nat} {spr : List (DataW H)} (hi : i < len) : Rows.uptoBulk (D i) ≤ Rows.uptoBulk (.slice ((List.range len).map D) spr) := by
  have := bulk_part (List.mem_map.2 ⟨i, List.mem_range.2 hi, rfl⟩ : D i ∈ (List.range len).map D)
  simp only [Rows.uptoBulk]
  omega
theorem small_of_bulk {H : Type} {l : List (DataW H)} (hk : Rows.uptoSmall H l = true) {d : DataW H} (hd : d ∈ l) {n : Nat} (h : n ≤ Rows.uptoBulk d) : n ≤ 1048576 := by
  have hb : Rows.uptoBulkAll l ≤ 1048576 := of_decide_eq_true hk
  have hp := bulk_part hd
  omega
section
variable {H : Type} {enc : TypeId × Value → H} {P : Program} {W : World} {base : Nat} {sp : Nat → Bool} {held : Bool}
theorem open_lists {kd : IntKind} {t e b : TypeId} {a : Option Addr} {len cap : Nat} {d : DataW H} {ps : List MemPlace} (ht : P.underlying t = some (.slice e)) (he : P.underlying e = some (.slice b)) (hb : P.underlying b = some (.int kd)) (cb : P.cellsOf b = 1) (ce : P.cellsOf e = 1)
    (h : DataW.Trod enc P W base sp held t (.slice a len cap) d ps) :
    ∃ L : List (List Int), Lists kd W (.slice a len cap) L ∧ (∀ i j, j < (L.getD i []).length → (Lit.int kd (ix (L.getD i []) j)).wf = true) ∧ Long d L.length ∧ ∀ i, (L.getD i []).length ≤ Rows.uptoBulk d := by
  obtain ⟨fuel, hf⟩ := h
  rcases Deep.open_slice1 ht ce hf with ⟨hcs, hx⟩ | ⟨x, l, c, m, n, V, D, Pl, hcs, _, hl, hm, hmm, hx, hall⟩
  · simp [Value.cells] at hcs
    obtain ⟨rfl, rfl, rfl⟩ := hcs
    simp at hx
    exact ⟨[], ⟨none, 0, 0, 0, rfl, by simp, by simp, by simp, by simp⟩, fun i j hj => by simp at hj, .inl ⟨hx.1, rfl⟩, by simp⟩
  · simp [Value.cells] at hcs
    obtain ⟨rfl, rfl, rfl⟩ := hcs
    have hlm : len ≤ m := by rw [hmm]; split <;> omega
    obtain ⟨rfl, _⟩ := Prod.mk.inj hx
    have each : ∀ i, i < len → ∃ q : List Int, Nums kd W (V i) q ∧ (∀ j, j < q.length → (Lit.int kd (ix q j)).wf = true) ∧ q.length ≤ Rows.uptoBulk (D i) := fun i hi => by
      obtain ⟨h1, h2⟩ := hall i (by omega)
      have hV : ∃ a' l' c', V i = .slice a' l' c' := by
        rcases Deep.open_slice he h2 with ⟨h3, _⟩ | ⟨x', l', c', _, _, _, _, h3, _⟩
        · exact ⟨none, 0, 0, by simpa using h3⟩
        · exact ⟨some x', l', c', by simpa using h3⟩
      obtain ⟨a', l', c', hV⟩ := hV
      obtain ⟨q, hq, hw, hl'⟩ := open_nums (k := kd) he hb cb (a := a') (len := l') (cap := c') (d := D i) (ps := Pl i) ⟨n, by rw [← hV]; rw [hV] at h2 ⊢; exact h2⟩
      exact ⟨q, by rw [hV]; exact hq, hw, long_bulk hl'⟩
    let q : Nat → List Int := fun i => if hi : i < len then (each i hi).choose else []
    have hq : ∀ i, i < len → Nums kd W (V i) (q i) ∧ (∀ j, j < (q i).length → (Lit.int kd (ix (q i) j)).wf = true) ∧ (q i).length ≤ Rows.uptoBulk (D i) := fun i hi => by
      have := (each i hi).choose_spec
      simp only [q, dif_pos hi]
      exact this
    have hlen : ((List.range len).map q).length = len := by simp
    have hget : ∀ i, i < len → ((List.range len).map q).getD i [] = q i := fun i hi => by simp [List.getD, hi]
    have hget' : ∀ i, ¬ i < len → ((List.range len).map q).getD i [] = [] := fun i hi => by simp only [List.getD]; rw [List.getElem?_eq_none (by rw [hlen]; omega)]; rfl
    refine ⟨(List.range len).map q, ⟨some x, cap, x.block, x.off, by rw [hlen], by omega, by simpa [maxLen] using hm, fun hp => ?_, fun i hi => ?_⟩, fun i => ?_, .inr ⟨_, _, rfl, by simp⟩, fun i => ?_⟩
    · rw [hlen] at hp
      exact congrArg some (addr_of_cell (hall 0 (by omega)).1)
    · rw [hlen] at hi
      have hx' := addr_of_cell (hall 0 (by omega)).1
      have g0 := (hall i (by omega)).1
      rw [hx', Addr.add_lit] at g0
      rw [hget i hi]
      exact ⟨V i, later g0, (hq i hi).1⟩
    · by_cases hi : i < len
      · rw [hget i hi]; exact (hq i hi).2.1
      · rw [hget' i hi]; intro j hj; simp at hj
    · by_cases hi : i < len
      · rw [hget i hi]; exact Nat.le_trans (hq i hi).2.2 (bulk_elem hi)
      · rw [hget' i hi]; simp
end
end Go.Proofs.Ytigpjfebnppejaa
