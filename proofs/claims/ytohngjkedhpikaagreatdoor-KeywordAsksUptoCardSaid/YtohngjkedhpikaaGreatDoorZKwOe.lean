/-
  KEYWORD: opening entries that came in; terms that came in; how much they have.
-/
import Derived.Test.YtohngjkedhpikaaGreatDoorZKwN
import Derived.Test.YtohngjkedhpikaaGreatDoorZKwQ
import Derived.Test.YtohngjkedhpikaaGreatDoorZOpenD
namespace Go.Proofs.YtohngjkedhpikaaGreatDoor
open Go.RowKit Go.ChangeShapes Go.WideShapes
section
variable {H : Type} {enc : TypeId × Value → H} {W : World} {base : Nat} {sp : Nat → Bool} {held : Bool}
set_option maxRecDepth 10000 in
theorem open_txsK {a : Option Addr} {len cap : Nat} {d : DataW H} {ps : List MemPlace} (h : DataW.Trod enc Tryz.prog W base sp held 43 (.slice a len cap) d ps) :
    ∃ l : List ByteArray, Txts W (.slice a len cap) l ∧ Long d l.length ∧ ∀ x ∈ l, x.size ≤ Rows.uptoBulk d := by
  obtain ⟨l, h1, h2, h3⟩ := open_recs (c := txE) (Good := fun x y => x.size ≤ Rows.uptoBulk y) Tryz.underlying43 (by kernel_rfl) (by decide) (fun cs n y hlen hy => by
    have hlen : cs.length = 1 := hlen
    match cs, hlen with
    | [c0], _ =>
      obtain ⟨a0, e0, f0, _⟩ := DataW.trod_string Tryz.underlying9 hy
      obtain rfl := (List.cons.inj e0).1
      exact ⟨a0, rfl, bulk_str (congrArg Prod.fst f0)⟩) h
  refine ⟨l, Txts.of_recs h1, h2, fun x hx => ?_⟩
  obtain ⟨i, hi, e⟩ := List.mem_iff_getElem.1 hx
  obtain ⟨y, hg, el, spr, hd, hy⟩ := h3 i x (by rw [List.getElem?_eq_getElem hi, e])
  have := bulk_rec hd hy
  omega
/-- an entry of bulk at most n -/
structure EnB (e : En) (n : Nat) : Prop where
  t : e.term.size ≤ n
  s : e.sub.size ≤ n
  tl : e.topics.length ≤ n
  sl : e.sees.length ≤ n
  ss : ∀ x ∈ e.sees, x.size ≤ n
theorem EnB.mono {e : En} {n m : Nat} (h : EnB e n) (hm : n ≤ m) : EnB e m := ⟨Nat.le_trans h.t hm, Nat.le_trans h.s hm, Nat.le_trans h.tl hm, Nat.le_trans h.sl hm, fun x hx => Nat.le_trans (h.ss x hx) hm⟩
set_option maxRecDepth 10000 in
theorem open_ents {a : Option Addr} {len cap : Nat} {d : DataW H} {ps : List MemPlace} (h : DataW.Trod enc Tryz.prog W base sp held 25 (.slice a len cap) d ps) :
    ∃ l : List En, Ents W (.slice a len cap) l ∧ Long d l.length ∧ ∀ e ∈ l, EnB e (Rows.uptoBulk d) := by
  obtain ⟨l, h1, h2, h3⟩ := open_seqs (c := erE) (R := ErR) (B := fun e y => EnB e (Rows.uptoBulk y)) Tryz.underlying25 (by kernel_rfl) (by decide) (fun cs n y hlen hy => by
    obtain ⟨xs, k, hk, hxy, _, hxl, hf⟩ := DataW.trod_struct Tryz.underlying45 hy
    have hlen : cs.length = 4 := hlen
    match xs, hxl, cs, hlen with
    | [y0, y1, y2, y3], _, [c0, c1, c2, c3], _ =>
      have g0 := hf 0 _ rfl
      have g1 := hf 1 _ rfl
      have g2 := hf 2 _ rfl
      have g3 := hf 3 _ rfl
      have k9 : Tryz.prog.cellsOf 9 = 1 := by kernel_rfl
      have kI : Tryz.prog.cellsOf 42 = 1 := by kernel_rfl
      have kS : Tryz.prog.cellsOf 43 = 1 := by kernel_rfl
      simp [k9, kI, kS] at g0 g1 g2 g3
      obtain ⟨a0, e0, f0, _⟩ := DataW.trod_string Tryz.underlying9 g0
      obtain ⟨a1, e1, f1, _⟩ := DataW.trod_string Tryz.underlying9 g1
      obtain ⟨⟨a2, n2, q2⟩, rfl⟩ := slK_of Tryz.underlying42 g2
      obtain ⟨⟨a3, n3, q3⟩, rfl⟩ := slK_of Tryz.underlying43 g3
      obtain ⟨I, hI, _, hIl⟩ := open_ints' (enc := enc) (a := a2) (len := n2) (cap := q2) (d := y2.1) (ps := y2.2) Tryz.underlying42 Tryz.underlying3 (by kernel_rfl) ⟨_, g2⟩
      obtain ⟨Z, hZ, hZl, hZb⟩ := open_txsK (enc := enc) (a := a3) (len := n3) (cap := q3) (d := y3.1) (ps := y3.2) ⟨_, g3⟩
      have b0 := bulk_str (congrArg Prod.fst f0)
      have b1 := bulk_str (congrArg Prod.fst f1)
      have u0 := bulk_agg (congrArg Prod.fst hxy) (x := y0.1) (by simp)
      have u1 := bulk_agg (congrArg Prod.fst hxy) (x := y1.1) (by simp)
      have u2 := bulk_agg (congrArg Prod.fst hxy) (x := y2.1) (by simp)
      have u3 := bulk_agg (congrArg Prod.fst hxy) (x := y3.1) (by simp)
      simp at e0 e1
      subst e0; subst e1
      exact ⟨⟨a0, a1, (a2, n2, q2), (a3, n3, q3)⟩, ⟨a0, a1, I, Z⟩, rfl, ⟨rfl, rfl, hI, hZ⟩, ⟨Nat.le_trans b0 u0, Nat.le_trans b1 u1, Nat.le_trans (long_bulkD hIl) u2, Nat.le_trans (long_bulkD hZl) u3, fun x hx => Nat.le_trans (hZb x hx) u3⟩⟩) h
  refine ⟨l, h1, h2, fun e he => ?_⟩
  obtain ⟨i, hi, e'⟩ := List.mem_iff_getElem.1 he
  obtain ⟨y, hy, hb⟩ := h3 i e (by rw [List.getElem?_eq_getElem hi, e'])
  exact hy.mono hb
end
end Go.Proofs.YtohngjkedhpikaaGreatDoor
