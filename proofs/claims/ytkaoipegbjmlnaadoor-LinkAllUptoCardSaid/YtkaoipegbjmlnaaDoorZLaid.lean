/-
  LINK: opening topics of pieces, and a directory.
-/
import Derived.Test.YtkaoipegbjmlnaaDoorZOpenD
import Derived.Test.YtkaoipegbjmlnaaDoorZRefsP
import Derived.Test.YtkaoipegbjmlnaaDoorRows
import Derived.Test.YtkaoipegbjmlnaaDoorZQuiet
import Derived.Lib.LaidIn
import Derived.Lib.LaidU8T
import Derived.Deep.DeepHandedRow
import Derived.Deep.DeepWitnessRowRef
import Derived.ProofKit
namespace Go.Proofs.YtkaoipegbjmlnaaDoor
open Go.RowKit Go.ChangeShapes Go.WideShapes
section
variable {H : Type} {enc : TypeId × Value → H} {W : World} {base : Nat} {sp : Nat → Bool} {held : Bool}
set_option maxRecDepth 10000 in
theorem open_dir {a : Option Addr} {len cap : Nat} {d : DataW H} {ps : List MemPlace} (h : DataW.Trod enc Tryd.prog W base sp held 23 (.slice a len cap) d ps) :
    ∃ l : List Nm, Recs nmE W (.slice a len cap) l ∧ Long d l.length ∧ ∀ x ∈ l, x.norm.size ≤ 9223372036854775807 := by
  obtain ⟨l, h1, h2, h3⟩ := open_recs (c := nmE) (Good := fun x _ => x.norm.size ≤ 9223372036854775807) Tryd.underlying23 (by kernel_rfl) (by decide) (fun cs n y hlen hy => by
    obtain ⟨xs, k, hk, hxy, _, hxl, hf⟩ := DataW.trod_struct Tryd.underlying45 hy
    have hlen : cs.length = 6 := hlen
    match xs, hxl, cs, hlen with
    | [y0, y1, y2, y3, y4, y5], _, [c0, c1, c2, c3, c4, c5], _ =>
      have g0 := hf 0 _ rfl
      have g1 := hf 1 _ rfl
      have g2 := hf 2 _ rfl
      have g3 := hf 3 _ rfl
      have g4 := hf 4 _ rfl
      have g5 := hf 5 _ rfl
      have k3 : Tryd.prog.cellsOf 3 = 1 := by kernel_rfl
      have k9 : Tryd.prog.cellsOf 9 = 1 := by kernel_rfl
      simp [k3, k9] at g0 g1 g2 g3 g4 g5
      obtain ⟨a0, e0, _⟩ := DataW.trod_string Tryd.underlying9 g0
      obtain ⟨a1, e1, _, w1⟩ := DataW.trod_string Tryd.underlying9 g1
      obtain ⟨a2, e2, _⟩ := DataW.trod_int Tryd.underlying3 g2
      obtain ⟨a3, e3, _⟩ := DataW.trod_int Tryd.underlying3 g3
      obtain ⟨a4, e4, _⟩ := DataW.trod_int Tryd.underlying3 g4
      obtain ⟨a5, e5, _⟩ := DataW.trod_int Tryd.underlying3 g5
      simp at e0 e1 e2 e3 e4 e5
      subst e0; subst e1; subst e2; subst e3; subst e4; subst e5
      exact ⟨⟨a0, a1, a2, a3, a4, a5⟩, rfl, by simpa [maxLen] using w1⟩) h
  refine ⟨l, h1, h2, fun x hx => ?_⟩
  obtain ⟨i, hi, e⟩ := List.mem_iff_getElem.1 hx
  obtain ⟨y, hg, _⟩ := h3 i x (by rw [List.getElem?_eq_getElem hi, e])
  exact hg
set_option maxRecDepth 10000 in
theorem open_pcs {a : Option Addr} {len cap : Nat} {d : DataW H} {ps : List MemPlace} (h : DataW.Trod enc Tryd.prog W base sp held 39 (.slice a len cap) d ps) :
    ∃ l : List Pc, Recs pcE W (.slice a len cap) l ∧ Long d l.length := by
  obtain ⟨l, h1, h2, _⟩ := open_recs (c := pcE) (Good := fun _ _ => True) Tryd.underlying39 (by kernel_rfl) (by decide) (fun cs n y hlen hy => by
    obtain ⟨xs, k, hk, hxy, _, hxl, hf⟩ := DataW.trod_struct Tryd.underlying41 hy
    have hlen : cs.length = 4 := hlen
    match xs, hxl, cs, hlen with
    | [y0, y1, y2, y3], _, [c0, c1, c2, c3], _ =>
      have g0 := hf 0 _ rfl
      have g1 := hf 1 _ rfl
      have g2 := hf 2 _ rfl
      have g3 := hf 3 _ rfl
      have k3 : Tryd.prog.cellsOf 3 = 1 := by kernel_rfl
      have k9 : Tryd.prog.cellsOf 9 = 1 := by kernel_rfl
      simp [k3, k9] at g0 g1 g2 g3
      obtain ⟨a0, e0, _⟩ := DataW.trod_int Tryd.underlying3 g0
      obtain ⟨a1, e1, _⟩ := DataW.trod_string Tryd.underlying9 g1
      obtain ⟨a2, e2, _⟩ := DataW.trod_int Tryd.underlying3 g2
      obtain ⟨a3, e3, _⟩ := DataW.trod_int Tryd.underlying3 g3
      simp at e0 e1 e2 e3
      subst e0; subst e1; subst e2; subst e3
      exact ⟨⟨a0, a1, a2, a3⟩, rfl, trivial⟩) h
  exact ⟨l, h1, h2⟩
theorem open_topics {a : Option Addr} {len cap : Nat} {d : DataW H} {ps : List MemPlace} (h : DataW.Trod enc Tryd.prog W base sp held 22 (.slice a len cap) d ps) :
    ∃ l : List (List Pc), Topics W (.slice a len cap) l ∧ Long d l.length ∧ ∀ (i : Nat) (x : List Pc), l[i]? = some x → x.length ≤ Rows.uptoBulk d := by
  obtain ⟨l, h1, h2, h3⟩ := open_seqs (c := slE) (R := TopicR) (B := fun x y => x.length ≤ Rows.uptoBulk y) Tryd.underlying22 (by kernel_rfl) (by decide) (fun cs n y hlen hy => by
    rcases Deep.open_slice Tryd.underlying39 hy with ⟨rfl, _⟩ | ⟨x', l', c', _, _, _, _, rfl, _⟩
    · obtain ⟨q, hq, hl⟩ := open_pcs (enc := enc) (a := none) (len := 0) (cap := 0) (d := y.1) (ps := y.2) ⟨n, hy⟩
      exact ⟨(none, 0, 0), q, rfl, hq, long_bulkD hl⟩
    · obtain ⟨q, hq, hl⟩ := open_pcs (enc := enc) (a := some x') (len := l') (cap := c') (d := y.1) (ps := y.2) ⟨n, hy⟩
      exact ⟨(some x', l', c'), q, rfl, hq, long_bulkD hl⟩) h
  refine ⟨l, h1, h2, fun i x hx => ?_⟩
  obtain ⟨y, hy, hb⟩ := h3 i x hx
  omega
end
end Go.Proofs.YtkaoipegbjmlnaaDoor
/-
  THE TWO TABLES OF PACKAGE utf8, AS THIS SEAT's ROWS LIST THEM: what the list gives; a world that holds them.
-/







namespace Go.Proofs.YtkaoipegbjmlnaaDoor
open Go.Shelf Go.Lib Go.RowKit

theorem first_eq : (Rows.laid_unicode_utf8_first : DataW Unit) = Lib.firstData := by kernel_rfl
theorem accept_eq : (Rows.laid_unicode_utf8_acceptRanges : DataW Unit) = Lib.acceptData := by kernel_rfl
theorem utf8Tabs_old {w W : World} {a b : Nat} (h : Lib.Utf8Tabs a b w) (o : Old w W) : Lib.Utf8Tabs a b W :=
  ⟨fun c hc => o.cell (h.1 c hc), fun i hi => ⟨o.cell (h.2 i hi).1, o.cell (h.2 i hi).2⟩⟩
theorem tabs_of {l : List (String × DataW Unit)} {W : World} (h : laidMet Tryd.prog l W) (h1 : ("unicode/utf8.first", (Rows.laid_unicode_utf8_first : DataW Unit)) ∈ l) (h2 : ("unicode/utf8.acceptRanges", (Rows.laid_unicode_utf8_acceptRanges : DataW Unit)) ∈ l) : Tabs W := by
  have r1 := Lib.laidMet.reads h h1
  have r2 := Lib.laidMet.reads h h2
  rw [first_eq] at r1
  rw [accept_eq] at r2
  have := utf8Tabs_of_readsT (U8Types.of260 Tryd.lays260) ⟨by kernel_rfl, by kernel_rfl, by kernel_rfl, by kernel_rfl, by kernel_rfl, by kernel_rfl, by kernel_rfl⟩ r1 r2
  exact fun V o => utf8Tabs_old this o
noncomputable def laidWorld (os : Os) : World :=
  let w0 := World.holding Tryd.prog os ⟨#[], #[], []⟩
  let put (h : Array Obj) (g : Nat) (cs : Array Value) : Array Obj := h.modify g fun
    | .cells _ t frozen => .cells cs t frozen
    | o => o
  let h1 := put w0.heap 0 (Lib.firstTab.map fun z => Value.int .u8 z).toArray
  let h2 := put h1 1 ((List.range 16).flatMap fun i => [Value.int .u8 (Lib.accLo i), Value.int .u8 (Lib.accHi i)]).toArray
  { w0 with heap := h2 }
theorem laid_met (os : Os) (args : Array Value) : laidMet Tryd.prog [("unicode/utf8.acceptRanges", (Rows.laid_unicode_utf8_acceptRanges : DataW Unit)), ("unicode/utf8.first", Rows.laid_unicode_utf8_first)] ((laidWorld os).forCall (fun _ _ => 0) ⟨#[], args, []⟩).memory := by
  rw [first_eq, accept_eq]
  exact (LaidIn.of_run (l := [("unicode/utf8.acceptRanges", Lib.acceptData), ("unicode/utf8.first", Lib.firstData)]) [1, 0] 8 (by kernel_rfl) (by kernel_rfl) (by kernel_rfl) (by kernel_rfl)).met
end Go.Proofs.YtkaoipegbjmlnaaDoor
