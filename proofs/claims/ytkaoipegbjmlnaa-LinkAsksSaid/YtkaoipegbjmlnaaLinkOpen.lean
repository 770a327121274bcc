/-
  LINK: opening a slice of references.
-/
import Derived.Test.YtkaoipegbjmlnaaOpenR
import Derived.Test.YtkaoipegbjmlnaaLinkC
namespace Go.Proofs.Ytkaoipegbjmlnaa
open Go.RowKit Go.ChangeShapes Go.WideShapes
section
variable {H : Type} {enc : TypeId × Value → H} {W : World} {base : Nat} {sp : Nat → Bool} {held : Bool}
theorem open_refers {a : Option Addr} {len cap : Nat} {d : DataW H} {ps : List MemPlace} (h : DataW.Trod enc Try.prog W base sp held 22 (.slice a len cap) d ps) :
    ∃ l : List Rfr, Recs rfE W (.slice a len cap) l ∧ Long d l.length := by
  obtain ⟨l, h1, h2, _⟩ := open_recs (c := rfE) (Good := fun _ _ => True) Try.underlying22 (by kernel_rfl) (by decide) (fun cs n y hlen hy => by
    obtain ⟨xs, k, hk, hxy, _, hxl, hf⟩ := DataW.trod_struct Try.underlying48 hy
    match xs, hxl, cs, hlen with
    | [y0, y1, y2, y3, y4, y5], _, [c0, c1, c2, c3, c4, c5], _ =>
      have g0 := hf 0 _ rfl
      have g1 := hf 1 _ rfl
      have g2 := hf 2 _ rfl
      have g3 := hf 3 _ rfl
      have g4 := hf 4 _ rfl
      have g5 := hf 5 _ rfl
      have k3 : Try.prog.cellsOf 3 = 1 := by kernel_rfl
      have k9 : Try.prog.cellsOf 9 = 1 := by kernel_rfl
      simp [k3, k9] at g0 g1 g2 g3 g4 g5
      obtain ⟨a0, e0, _, w0⟩ := DataW.trod_int Try.underlying3 g0
      obtain ⟨a1, e1, _, w1⟩ := DataW.trod_int Try.underlying3 g1
      obtain ⟨a2, e2, _, w2⟩ := DataW.trod_int Try.underlying3 g2
      obtain ⟨a3, e3, _⟩ := DataW.trod_string Try.underlying9 g3
      obtain ⟨a4, e4, _, w4⟩ := DataW.trod_int Try.underlying3 g4
      obtain ⟨a5, e5, _, w5⟩ := DataW.trod_int Try.underlying3 g5
      simp at e0 e1 e2 e3 e4 e5
      subst e0; subst e1; subst e2; subst e3; subst e4; subst e5
      exact ⟨⟨a0, a1, a2, a3, a4, a5⟩, rfl, trivial⟩) h
  exact ⟨l, h1, h2⟩
end
end Go.Proofs.Ytkaoipegbjmlnaa
