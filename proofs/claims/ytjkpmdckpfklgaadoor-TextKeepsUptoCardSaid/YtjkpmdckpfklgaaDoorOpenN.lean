/-
  OPENING ARGUMENTS, over no program: a slice that reads as data is a slice of numbers of a kind.
-/
import Derived.Test.YtjkpmdckpfklgaaDoorOpen
import Derived.Test.YtjkpmdckpfklgaaDoorNums
import Derived.Lib.LaidTab
namespace Go.Proofs.YtjkpmdckpfklgaaDoor
open Go.RowKit Go.ChangeShapes Go.WideShapes
section
variable {H : Type} {enc : TypeId × Value → H} {P : Program} {W : World} {base : Nat} {sp : Nat → Bool} {held : Bool} {k : IntKind}
theorem open_nums {t e : TypeId} {a : Option Addr} {len cap : Nat} {d : DataW H} {ps : List MemPlace} (ht : P.underlying t = some (.slice e)) (he : P.underlying e = some (.int k)) (ce : P.cellsOf e = 1)
    (h : DataW.Trod enc P W base sp held t (.slice a len cap) d ps) :
    ∃ l : List Int, Nums k W (.slice a len cap) l ∧ (∀ i, i < l.length → (Lit.int k (ix l i)).wf = true) ∧ Long d l.length := by
  obtain ⟨fuel, hf⟩ := h
  rcases Deep.open_slice ht hf with ⟨hcs, hx⟩ | ⟨x, l, c, m, n, D, Pl, hcs, _, hl, hm, hmm, hx, hall⟩
  · simp [Value.cells] at hcs
    obtain ⟨rfl, rfl, rfl⟩ := hcs
    simp at hx
    exact ⟨[], Nums.nil W, by simp, .inl ⟨hx.1, rfl⟩⟩
  · simp [Value.cells] at hcs
    obtain ⟨rfl, rfl, rfl⟩ := hcs
    have hlm : len ≤ m := by rw [hmm]; split <;> omega
    have each : ∀ i, i < m → ∃ q : Int, W.cell? (x.add i) = some (.int k q) ∧ (Lit.int k q).wf = true := fun i hi => by
      obtain ⟨cs', h1, h2⟩ := hall i hi
      rw [ce, Nat.mul_one] at h1
      obtain ⟨_, hlen, hcell⟩ := World.cells?_some h1
      obtain ⟨q, rfl, _, wq⟩ := DataW.trod_int he h2
      have := hcell 0 (by omega)
      rw [show (x.add i).add 0 = x.add i from if_pos rfl] at this
      exact ⟨q, by simpa using this, wq⟩
    let q : Nat → Int := fun i => if hi : i < m then (each i hi).choose else 0
    have hq : ∀ i, i < m → W.cell? (x.add i) = some (.int k (q i)) ∧ (Lit.int k (q i)).wf = true := fun i hi => by
      have := (each i hi).choose_spec
      simp only [q, dif_pos hi]
      exact this
    have hlen : ((List.range len).map q).length = len := by simp
    have hget : ∀ i, i < len → ix ((List.range len).map q) i = q i := fun i hi => by simp [ix, List.getD, hi]
    refine ⟨(List.range len).map q, ?_, fun i hi => ?_, .inr ⟨_, _, by simp at hx; exact hx.1, by simp⟩⟩
    · refine ⟨some x, cap, x.block, x.off, by rw [hlen], by omega, by simpa [maxLen] using hm, fun hp => ?_, fun i hi => ?_⟩
      · rw [hlen] at hp
        exact congrArg some (addr_of_cell (hq 0 (by omega)).1)
      · rw [hlen] at hi
        have hx' := addr_of_cell (hq 0 (by omega)).1
        have g0 := (hq i (by omega)).1
        rw [hx', Addr.add_lit] at g0
        rw [hget i hi]
        exact later g0
    · rw [hlen] at hi
      rw [hget i hi]
      exact (hq i (by omega)).2
theorem open_arr {t e : TypeId} {n : Nat} {xs : Array Value} {d : DataW H} {ps : List MemPlace} (ht : P.underlying t = some (.array n e)) (he : P.underlying e = some (.int k)) (ce : P.cellsOf e = 1)
    (h : DataW.Trod enc P W base sp held t (.agg xs) d ps) : ∀ i, i < n → ∃ q, xs[i]? = some (.int k q) ∧ (Lit.int k q).wf = true := by
  intro i hi
  obtain ⟨fuel, hf⟩ := h
  cases fuel with
  | zero => simp [DataW.trod] at hf
  | succ fuel =>
    simp only [DataW.trod, ht, Value.cells] at hf
    split at hf
    · obtain ⟨ys, hm, hx⟩ := Option.map_eq_some_iff.1 hf
      obtain ⟨b, hb, hbf⟩ := Lib.mapM_at hm i i (by simp [hi])
      rw [ce, Nat.mul_one] at hbf
      obtain ⟨q, hq, _, wq⟩ := DataW.trod_int he hbf
      refine ⟨q, ?_, wq⟩
      have := congrArg (·[0]?) hq
      simp only [List.getElem?_take, List.getElem?_drop, Nat.lt_one_iff, if_true, Nat.add_zero] at this
      simpa using this
    · cases hf
theorem okWide_arr' {t e : TypeId} {n : Nat} {r : Reach} {b0 : Nat} {v : Value} (ht : P.underlying t = some (.array n e)) (hs : P.cellsOf t = n) (h : Value.okWide P W r b0 t v) : ∃ xs : Array Value, v = .agg xs ∧ xs.size = n := by
  simp only [Value.okWide, ht] at h
  obtain ⟨cs, h1, h2, _⟩ := h
  exact ⟨cs, h1, by rw [h2, hs]⟩
theorem open_arr4 {t e : TypeId} {r : Reach} {b0 : Nat} {v : Value} {d : DataW H} {ps : List MemPlace} (ht : P.underlying t = some (.array 4 e)) (hs : P.cellsOf t = 4) (he : P.underlying e = some (.int .u8)) (ce : P.cellsOf e = 1) (hv : Value.okWide P W r b0 t v)
    (h : DataW.Trod enc P W base sp held t v d ps) : ∃ a b c d : Nat, v = .agg #[.int .u8 a, .int .u8 b, .int .u8 c, .int .u8 d] ∧ a < 256 ∧ b < 256 ∧ c < 256 ∧ d < 256 := by
  obtain ⟨xs, rfl, hn⟩ := okWide_arr' ht hs hv
  have key : ∀ i, i < 4 → ∃ m : Nat, xs[i]? = some (.int .u8 m) ∧ m < 256 := fun i hi => by
    obtain ⟨q, hq, wq⟩ := open_arr ht he ce h i hi
    have := bounds_u8 wq
    obtain ⟨m, rfl⟩ := Int.eq_ofNat_of_zero_le this.1
    exact ⟨m, hq, by omega⟩
  obtain ⟨m0, h0, l0⟩ := key 0 (by omega)
  obtain ⟨m1, h1, l1⟩ := key 1 (by omega)
  obtain ⟨m2, h2, l2⟩ := key 2 (by omega)
  obtain ⟨m3, h3, l3⟩ := key 3 (by omega)
  refine ⟨m0, m1, m2, m3, ?_, l0, l1, l2, l3⟩
  congr 1
  apply Array.ext_getElem?
  intro i
  match i with
  | 0 => simpa using h0
  | 1 => simpa using h1
  | 2 => simpa using h2
  | 3 => simpa using h3
  | i + 4 => simp; omega
end
end Go.Proofs.YtjkpmdckpfklgaaDoor
