/-
  OPENING ARGUMENTS, over no program: a slice that reads as data is a slice of numbers of a kind.
-/
import Derived.Test.YtaclkoipobgmkaaDoorOpen
import Derived.Test.YtaclkoipobgmkaaDoorNums
namespace Go.Proofs.YtaclkoipobgmkaaDoor
open Go.RowKit Go.ChangeShapes Go.WideShapes
section
variable {H : Type} {enc : TypeId × Value → H} {P : Program} {W : World} {base : Nat} {sp : Nat → Bool} {held : Bool} {k : IntKind}
theorem open_nums {t e : TypeId} {a : Option Addr} {len cap : Nat} {d : DataW H} {ps : List MemPlace} (ht : P.underlying t = some (.slice e)) (he : P.underlying e = some (.int k)) (ce : P.cellsOf e = 1)
    (h : DataW.Trod enc P W base sp held t (.slice a len cap) d ps) :
    ∃ l : List Int, Nums k W (.slice a len cap) l ∧ (∀ i, i < l.length → (Lit.int k (ix l i)).wf = true) ∧ Long d l.length := by
  obtain ⟨fuel, hf⟩ := h
  rcases Deep.open_slice ht hf with ⟨hcs, hx⟩ | ⟨x, l, c, m, n, D, Pl, hcs, _, hl, hm, hmm, hx, hall⟩
  · simp [Value.cells] at hcs
    obtain ⟨rfl, rfl, rfl⟩ := hcs
    simp at hx
    exact ⟨[], Nums.nil W, by simp, .inl ⟨hx.1, rfl⟩⟩
  · simp [Value.cells] at hcs
    obtain ⟨rfl, rfl, rfl⟩ := hcs
    have hlm : len ≤ m := by rw [hmm]; split <;> omega
    have each : ∀ i, i < m → ∃ q : Int, W.cell? (x.add i) = some (.int k q) ∧ (Lit.int k q).wf = true := fun i hi => by
      obtain ⟨cs', h1, h2⟩ := hall i hi
      rw [ce, Nat.mul_one] at h1
      obtain ⟨_, hlen, hcell⟩ := World.cells?_some h1
      obtain ⟨q, rfl, _, wq⟩ := DataW.trod_int he h2
      have := hcell 0 (by omega)
      rw [show (x.add i).add 0 = x.add i from if_pos rfl] at this
      exact ⟨q, by simpa using this, wq⟩
    let q : Nat → Int := fun i => if hi : i < m then (each i hi).choose else 0
    have hq : ∀ i, i < m → W.cell? (x.add i) = some (.int k (q i)) ∧ (Lit.int k (q i)).wf = true := fun i hi => by
      have := (each i hi).choose_spec
      simp only [q, dif_pos hi]
      exact this
    have hlen : ((List.range len).map q).length = len := by simp
    have hget : ∀ i, i < len → ix ((List.range len).map q) i = q i := fun i hi => by simp [ix, List.getD, hi]
    refine ⟨(List.range len).map q, ?_, fun i hi => ?_, .inr ⟨_, _, by simp at hx; exact hx.1, by simp⟩⟩
    · refine ⟨some x, cap, x.block, x.off, by rw [hlen], by omega, by simpa [maxLen] using hm, fun hp => ?_, fun i hi => ?_⟩
      · rw [hlen] at hp
        exact congrArg some (addr_of_cell (hq 0 (by omega)).1)
      · rw [hlen] at hi
        have hx' := addr_of_cell (hq 0 (by omega)).1
        have g0 := (hq i (by omega)).1
        rw [hx', Addr.add_lit] at g0
        rw [hget i hi]
        exact later g0
    · rw [hlen] at hi
      rw [hget i hi]
      exact (hq i (by omega)).2
end
end Go.Proofs.YtaclkoipobgmkaaDoor
