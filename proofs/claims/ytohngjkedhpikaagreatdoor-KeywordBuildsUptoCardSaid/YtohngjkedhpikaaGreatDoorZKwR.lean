/-
  KEYWORD, S2: an entry's topics and sees grow.
-/
import Derived.Test.YtohngjkedhpikaaGreatDoorZKwS
import Derived.Test.YtohngjkedhpikaaGreatDoorZTextWords
import Derived.ArgAppend
import Derived.Test.YtohngjkedhpikaaGreatDoorZKwA
import Derived.Test.YtohngjkedhpikaaGreatDoorZTextCodesD
namespace Go.Proofs.YtohngjkedhpikaaGreatDoor
open Go.RowKit Go.Maps

def intE : Enc Int := ⟨1, fun x => [.int .i64 x], fun _ => rfl, fun x u hu => by
  simp only [List.mem_cons, List.not_mem_nil, or_false] at hu
  subst hu; rfl⟩
theorem intE_all (l : List Int) : intE.all l = l.map (Value.int .i64) := by
  induction l with
  | nil => rfl
  | cons x t ih => rw [Enc.all_cons, ih]; rfl
theorem ownI_iff {E : TypeId} {w0 w : World} {v : Value} {l : List Int} : OwnS intE E w0 w v l ↔ OwnI E w0 w v l := by
  unfold OwnS OwnI
  rw [intE_all]; rfl
theorem infoIntK : (Tryz.prog.info? 3).map (fun i => (i.zero, i.size, i.bytes)) = some (some (.int .i64 0), 1, 8) := by kernel_rfl
theorem infoStrK : (Tryz.prog.info? 9).map (fun i => (i.zero, i.size, i.bytes)) = some (some (.string ⟨#[]⟩), 1, 16) := by kernel_rfl
theorem obj_oldK {w W : World} {g : Nat} {o : Obj} (h : w.heap[g]? = some o) (k : Old w W) : W.heap[g]? = some o := by rw [k.block g (Array.getElem?_eq_some_iff.1 h).1]; exact h
theorem obj_grownK {w W : World} {g : Nat} {o : Obj} {row : Option Nat} (h : w.heap[g]? = some o) (k : w.grownBy W row) (hne : some g ≠ row) : W.heap[g]? = some o := by rw [k.block g (Array.getElem?_eq_some_iff.1 h).1 hne]; exact h
variable {w0 w Z W : World} {fb bt bs bo n k : Nat} {T : ByteArray → Option ByteArray} {Sb : Pl → Option ByteArray} {Eo : Pl → Option En} {B : Pl → Nat} {TV SV : Pl → Value} {own : Nat → Option Pl} {p : Pl} {e : En}
/-- behind an append to the sees: the entry's block is as it was -/
theorem GS.objS (h : GS w0 w fb bt bs bo n k T Sb Eo B TV SV own) (he : Eo p = some e) (oZ : Old w Z) (hg : Z.grownBy W (SV p).ownBlock) : W.heap[B p]? = some (.cells #[.string e.term, .string e.sub, TV p, SV p] 45 (0, 0)) :=
  obj_grownK (obj_oldK (h.ent p e he).1.obj oZ) hg fun k => ((h.ent p e he).2.s _ k.symm).2 rfl
theorem GS.objT (h : GS w0 w fb bt bs bo n k T Sb Eo B TV SV own) (he : Eo p = some e) (oZ : Old w Z) (hg : Z.grownBy W (TV p).ownBlock) : W.heap[B p]? = some (.cells #[.string e.term, .string e.sub, TV p, SV p] 45 (0, 0)) :=
  obj_grownK (obj_oldK (h.ent p e he).1.obj oZ) hg fun k => ((h.ent p e he).2.t _ k.symm).2 rfl
theorem GS.growS (h : GS w0 w fb bt bs bo n k T Sb Eo B TV SV own) (he : Eo p = some e) (oZ : Old w Z) {g cap m : Nat} {x : ByteArray} (hg : Z.grownBy W (SV p).ownBlock)
    (hown : OwnS txE 9 w0 W (.slice (some ⟨g, 0, none⟩) m cap) (e.sees ++ [x])) (hat : (SV p).ownBlock = some g ∨ g = Z.heap.size) :
    GS w0 (W.setCell ⟨B p, 3, none⟩ (.slice (some ⟨g, 0, none⟩) m cap)) fb bt bs bo n k T Sb (fun q => if q = p then some { e with sees := e.sees ++ [x] } else Eo q) B (fun q => if q = p then TV p else TV q) (fun q => if q = p then .slice (some ⟨g, 0, none⟩) m cap else SV q) (fun g => if w.heap.size ≤ g then some p else own g)
      ∧ KeptX (fun g => own g = some p) w (W.setCell ⟨B p, 3, none⟩ (.slice (some ⟨g, 0, none⟩) m cap)) ∧ KeptX (fun g => w0.heap.size ≤ g) w (W.setCell ⟨B p, 3, none⟩ (.slice (some ⟨g, 0, none⟩) m cap)) := by
  obtain ⟨hE, hO⟩ := h.ent p e he
  have hZs := oZ.size
  have hB := hE.lt
  have hgB : g ≠ B p := by
    rcases hat with h1 | h1
    · exact (hO.s g h1).2
    · omega
  have hkx : KeptX (fun g => own g = some p) w (W.setCell ⟨B p, 3, none⟩ (.slice (some ⟨g, 0, none⟩) m cap)) :=
    ((KeptX.of_old oZ).trans (KeptX.of_grown hg fun g e => (hO.s g e).1)).trans (KeptX.setCell _ _ _ _ hO.bl)
  have hky : KeptX (fun g => w0.heap.size ≤ g) w (W.setCell ⟨B p, 3, none⟩ (.slice (some ⟨g, 0, none⟩) m cap)) :=
    ((KeptX.of_old oZ).trans (KeptX.of_grown hg fun g e => (World.ownsRow.lt hE.sees g e).1)).trans (KeptX.setCell _ _ _ _ hE.base)
  refine ⟨h.put he hkx (tv := TV p) (sv := .slice (some ⟨g, 0, none⟩) m cap) ⟨hE.base, ?_, ?_, ?_⟩ ?_ ?_ ?_, hkx, hky⟩
  · exact heap_setCell_same _ _ 3 _ _ _ (h.objS he oZ hg)
  · refine ownsRow_block hE.tops fun j hj => ?_
    have h1 := (World.ownsRow.lt hE.tops j hj).2
    rw [show (W.setCell ⟨B p, 3, none⟩ (.slice (some ⟨g, 0, none⟩) m cap)).heap[j]? = W.heap[j]? from Below.heap_setCell _ _ _ j (fun k => (hO.t j hj).2 k)]
    rw [hg.block j (Nat.lt_of_lt_of_le h1 hZs) (fun k => hO.ap j hj k.symm), oZ.block j h1]
  · refine World.ownsRow.kept hown ⟨rfl, rfl, rfl, (KeepsWalks.setCell W _ _).size, fun j _ hj => Below.heap_setCell _ _ _ j (fun k => hj (by rw [k]))⟩ (row := some (B p)) (.inr ?_)
    intro k
    exact hgB (Option.some.inj k)
  · intro j hj hv
    rcases hv with hv | hv
    · exact (hO.t j hv).1
    · obtain rfl : g = j := Option.some.inj hv
      rcases hat with h1 | h1
      · exact (hO.s g h1).1
      · omega
  · intro j hv
    rcases hv with hv | hv
    · exact (hO.t j hv).2
    · obtain rfl : g = j := Option.some.inj hv
      exact hgB
  · intro j hv hv2
    obtain rfl : g = j := Option.some.inj hv2
    rcases hat with h1 | h1
    · exact hO.ap g hv h1
    · have := (World.ownsRow.lt hE.tops g hv).2
      omega
theorem GS.growT (h : GS w0 w fb bt bs bo n k T Sb Eo B TV SV own) (he : Eo p = some e) (oZ : Old w Z) {g cap m : Nat} {x : Int} (hg : Z.grownBy W (TV p).ownBlock)
    (hown : OwnS intE 3 w0 W (.slice (some ⟨g, 0, none⟩) m cap) (e.topics ++ [x])) (hat : (TV p).ownBlock = some g ∨ g = Z.heap.size) :
    GS w0 (W.setCell ⟨B p, 2, none⟩ (.slice (some ⟨g, 0, none⟩) m cap)) fb bt bs bo n k T Sb (fun q => if q = p then some { e with topics := e.topics ++ [x] } else Eo q) B (fun q => if q = p then .slice (some ⟨g, 0, none⟩) m cap else TV q) (fun q => if q = p then SV p else SV q) (fun g => if w.heap.size ≤ g then some p else own g)
      ∧ KeptX (fun g => own g = some p) w (W.setCell ⟨B p, 2, none⟩ (.slice (some ⟨g, 0, none⟩) m cap)) ∧ KeptX (fun g => w0.heap.size ≤ g) w (W.setCell ⟨B p, 2, none⟩ (.slice (some ⟨g, 0, none⟩) m cap)) := by
  obtain ⟨hE, hO⟩ := h.ent p e he
  have hZs := oZ.size
  have hB := hE.lt
  have hgB : g ≠ B p := by
    rcases hat with h1 | h1
    · exact (hO.t g h1).2
    · omega
  have hkx : KeptX (fun g => own g = some p) w (W.setCell ⟨B p, 2, none⟩ (.slice (some ⟨g, 0, none⟩) m cap)) :=
    ((KeptX.of_old oZ).trans (KeptX.of_grown hg fun g e => (hO.t g e).1)).trans (KeptX.setCell _ _ _ _ hO.bl)
  have hky : KeptX (fun g => w0.heap.size ≤ g) w (W.setCell ⟨B p, 2, none⟩ (.slice (some ⟨g, 0, none⟩) m cap)) :=
    ((KeptX.of_old oZ).trans (KeptX.of_grown hg fun g e => (World.ownsRow.lt hE.tops g e).1)).trans (KeptX.setCell _ _ _ _ hE.base)
  refine ⟨h.put he hkx (tv := .slice (some ⟨g, 0, none⟩) m cap) (sv := SV p) ⟨hE.base, ?_, ?_, ?_⟩ ?_ ?_ ?_, hkx, hky⟩
  · exact heap_setCell_same _ _ 2 _ _ _ (h.objT he oZ hg)
  · refine ownI_iff.1 (World.ownsRow.kept hown ⟨rfl, rfl, rfl, (KeepsWalks.setCell W _ _).size, fun j _ hj => Below.heap_setCell _ _ _ j (fun k => hj (by rw [k]))⟩ (row := some (B p)) (.inr ?_))
    intro k
    exact hgB (Option.some.inj k)
  · refine ownsRow_block hE.sees fun j hj => ?_
    have h1 := (World.ownsRow.lt hE.sees j hj).2
    rw [show (W.setCell ⟨B p, 2, none⟩ (.slice (some ⟨g, 0, none⟩) m cap)).heap[j]? = W.heap[j]? from Below.heap_setCell _ _ _ j (fun k => (hO.s j hj).2 k)]
    rw [hg.block j (Nat.lt_of_lt_of_le h1 hZs) (fun k => hO.ap j k.symm hj), oZ.block j h1]
  · intro j hj hv
    rcases hv with hv | hv
    · obtain rfl : g = j := Option.some.inj hv
      rcases hat with h1 | h1
      · exact (hO.t g h1).1
      · omega
    · exact (hO.s j hv).1
  · intro j hv
    rcases hv with hv | hv
    · obtain rfl : g = j := Option.some.inj hv
      exact hgB
    · exact (hO.s j hv).2
  · intro j hv hv2
    obtain rfl : g = j := Option.some.inj hv
    rcases hat with h1 | h1
    · exact hO.ap g h1 hv2
    · have := (World.ownsRow.lt hE.sees g hv2).2
      omega
theorem GS.seeRow (h : GS w0 w fb bt bs bo n k T Sb Eo B TV SV own) (he : Eo p = some e) {bp : Nat} (hbp : B p = bp) {a : Option Addr} {n1 c : Nat} (hv : SV p = .slice a n1 c) {l : List ByteArray} (hl : e.sees = l) {bx : Nat} {o : Obj} (hbx : w.heap[bx]? = some o) (hob : own bx = none) (hlo : OldBut fb w0 w) :
    (∃ t0 s0 x0, ∀ Z W, Old w Z → Z.grownBy W (Value.slice a n1 c).ownBlock → W.heap[bp]? = some (.cells #[.string t0, .string s0, x0, .slice a n1 c] 45 (0, 0))) ∧ (∀ V, Old w V → OwnS txE 9 w0 V (.slice a n1 c) l) ∧
    ∀ (Z W : World) (g cap m : Nat) (x : ByteArray) (E' : Pl → Option En), Old w Z → Z.grownBy W (Value.slice a n1 c).ownBlock → OwnS txE 9 w0 W (.slice (some ⟨g, 0, none⟩) m cap) (l ++ [x]) → ((Value.slice a n1 c).ownBlock = some g ∨ g = Z.heap.size) → E' = (fun q => if q = p then some { e with sees := l ++ [x] } else Eo q) →
      ∃ TV' SV' own', GS w0 (W.setCell ⟨bp, 3, none⟩ (.slice (some ⟨g, 0, none⟩) m cap)) fb bt bs bo n k T Sb E' B TV' SV' own' ∧ own' bx = none ∧ (W.setCell ⟨bp, 3, none⟩ (.slice (some ⟨g, 0, none⟩) m cap)).heap[bx]? = some o ∧ OldBut fb w0 (W.setCell ⟨bp, 3, none⟩ (.slice (some ⟨g, 0, none⟩) m cap)) := by
  subst hl
  subst hbp
  have hbl := (Array.getElem?_eq_some_iff.1 hbx).1
  refine ⟨⟨e.term, e.sub, TV p, fun Z W oZ hg => ?_⟩, fun V o => ?_, fun Z W g cap m x E' oZ hg hown hat hE' => ?_⟩
  · rw [← hv] at hg ⊢
    exact h.objS he oZ hg
  · rw [← hv]
    exact (h.ent p e he).1.sees.old o
  · subst hE'
    rw [← hv] at hg hat
    obtain ⟨h1, h2, h3⟩ := h.growS (x := x) he oZ hg hown hat
    refine ⟨_, _, _, h1, ?_, ?_, ?_⟩
    · show (if w.heap.size ≤ bx then some p else own bx) = none
      rw [if_neg (by omega)]; exact hob
    · rw [h2.block bx hbl (fun e => by rw [hob] at e; cases e)]
      exact hbx
    · exact ⟨h3.os.trans hlo.os, h3.tape.trans hlo.tape, h3.output.trans hlo.output, Nat.le_trans hlo.size h3.size, fun j hj hne => (h3.block j (Nat.lt_of_lt_of_le hj hlo.size) (by show ¬ w0.heap.size ≤ j; omega)).trans (hlo.block j hj hne)⟩
theorem GS.topRow (h : GS w0 w fb bt bs bo n k T Sb Eo B TV SV own) (he : Eo p = some e) {bp : Nat} (hbp : B p = bp) {a : Option Addr} {n1 c : Nat} (hv : TV p = .slice a n1 c) {l : List Int} (hl : e.topics = l) {bx : Nat} {o : Obj} (hbx : w.heap[bx]? = some o) (hob : own bx = none) (hlo : OldBut fb w0 w) :
    (∃ t0 s0 x0, ∀ Z W, Old w Z → Z.grownBy W (Value.slice a n1 c).ownBlock → W.heap[bp]? = some (.cells #[.string t0, .string s0, .slice a n1 c, x0] 45 (0, 0))) ∧ (∀ V, Old w V → OwnS intE 3 w0 V (.slice a n1 c) l) ∧
    ∀ (Z W : World) (g cap m : Nat) (x : Int) (E' : Pl → Option En), Old w Z → Z.grownBy W (Value.slice a n1 c).ownBlock → OwnS intE 3 w0 W (.slice (some ⟨g, 0, none⟩) m cap) (l ++ [x]) → ((Value.slice a n1 c).ownBlock = some g ∨ g = Z.heap.size) → E' = (fun q => if q = p then some { e with topics := l ++ [x] } else Eo q) →
      ∃ TV' SV' own', GS w0 (W.setCell ⟨bp, 2, none⟩ (.slice (some ⟨g, 0, none⟩) m cap)) fb bt bs bo n k T Sb E' B TV' SV' own' ∧ own' bx = none ∧ (W.setCell ⟨bp, 2, none⟩ (.slice (some ⟨g, 0, none⟩) m cap)).heap[bx]? = some o ∧ OldBut fb w0 (W.setCell ⟨bp, 2, none⟩ (.slice (some ⟨g, 0, none⟩) m cap)) := by
  subst hl
  subst hbp
  have hbl := (Array.getElem?_eq_some_iff.1 hbx).1
  refine ⟨⟨e.term, e.sub, SV p, fun Z W oZ hg => ?_⟩, fun V o => ?_, fun Z W g cap m x E' oZ hg hown hat hE' => ?_⟩
  · rw [← hv] at hg ⊢
    exact h.objT he oZ hg
  · rw [← hv]
    exact ownI_iff.2 ((h.ent p e he).1.tops.old o)
  · subst hE'
    rw [← hv] at hg hat
    obtain ⟨h1, h2, h3⟩ := h.growT (x := x) he oZ hg hown hat
    refine ⟨_, _, _, h1, ?_, ?_, ?_⟩
    · show (if w.heap.size ≤ bx then some p else own bx) = none
      rw [if_neg (by omega)]; exact hob
    · rw [h2.block bx hbl (fun e => by rw [hob] at e; cases e)]
      exact hbx
    · exact ⟨h3.os.trans hlo.os, h3.tape.trans hlo.tape, h3.output.trans hlo.output, Nat.le_trans hlo.size h3.size, fun j hj hne => (h3.block j (Nat.lt_of_lt_of_le hj hlo.size) (by show ¬ w0.heap.size ≤ j; omega)).trans (hlo.block j hj hne)⟩
end Go.Proofs.YtohngjkedhpikaaGreatDoor
/-
  A QUEUE OF THE CALL's OWN: a slice of elements of one cell that may begin within its block; over no program.
-/


namespace Go.Proofs.YtohngjkedhpikaaGreatDoor
open Go.RowKit

section
variable {α : Type} {en : α → Value}
def QuS (en : α → Value) (E : TypeId) (w0 w : World) (v : Value) (q : List α) : Prop :=
  ∃ (g o cap : Nat) (cur : Array Value), v = .slice (some ⟨g, o, none⟩) q.length cap ∧ w0.heap.size ≤ g ∧ w.heap[g]? = some (.cells cur E (0, 0)) ∧ q.length ≤ cap ∧ cap ≤ 9223372036854775807 ∧ o + cap ≤ cur.size ∧
    ∀ (i : Nat) (x : α), q[i]? = some x → cur[o + i]? = some (en x)
theorem QuS.one {E : TypeId} {w0 w : World} (x : α) (h : w0.heap.size ≤ w.heap.size) : QuS en E w0 (w.alloc (.cells #[en x] E)) (.slice (some ⟨w.heap.size, 0, none⟩) 1 1) [x] :=
  ⟨w.heap.size, 0, 1, _, rfl, h, heap_alloc_new w _, Nat.le_refl _, by omega, Nat.le_refl _, fun i y hi => by
    have hl := (List.getElem?_eq_some_iff.1 hi).1
    obtain rfl : i = 0 := by simpa using hl
    obtain rfl : x = y := by simpa using hi
    rfl⟩
theorem QuS.kept {E : TypeId} {w0 w w' : World} {v : Value} {q : List α} {row : Option Nat} (h : QuS en E w0 w v q) (hg : w.grownBy w' row) (hne : v.ownBlock ≠ row) : QuS en E w0 w' v q := by
  obtain ⟨g, o, cap, cur, rfl, h1, h2, r⟩ := h
  exact ⟨g, o, cap, cur, rfl, h1, by rw [hg.block g (Array.getElem?_eq_some_iff.1 h2).1 hne]; exact h2, r⟩
theorem QuS.old {E : TypeId} {w0 w w' : World} {v : Value} {q : List α} (h : QuS en E w0 w v q) (ho : Old w w') : QuS en E w0 w' v q := by
  obtain ⟨g, o, cap, cur, rfl, h1, h2, r⟩ := h
  exact ⟨g, o, cap, cur, rfl, h1, by rw [ho.block g (Array.getElem?_eq_some_iff.1 h2).1]; exact h2, r⟩
theorem QuS.form {E : TypeId} {w0 w : World} {v : Value} {q : List α} (h : QuS en E w0 w v q) : ∃ g o cap, v = .slice (some ⟨g, o, none⟩) q.length cap ∧ w0.heap.size ≤ g ∧ g < w.heap.size ∧ q.length ≤ cap ∧ cap ≤ 9223372036854775807 := by
  obtain ⟨g, o, cap, cur, rfl, h1, h2, h3, h4, _⟩ := h
  exact ⟨g, o, cap, rfl, h1, (Array.getElem?_eq_some_iff.1 h2).1, h3, h4⟩
theorem QuS.cell {E : TypeId} {w0 w : World} {g o n cap : Nat} {q : List α} (h : QuS en E w0 w (.slice (some ⟨g, o, none⟩) n cap) q) {i : Nat} {x : α} (hi : q[i]? = some x) : w.cell? ⟨g, o + i, none⟩ = some (en x) := by
  obtain ⟨g', o', cap', cur, e, h1, h2, h3, h4, h5, h6⟩ := h
  injection e with e1 e2 e3
  injection e1 with e1
  injection e1 with e1 e4
  subst e1; subst e4
  rw [cell_of_row w g (o + i) cur E (0, 0) h2]
  exact h6 i x hi
theorem QuS.tail {E : TypeId} {w0 w : World} {g o n cap : Nat} {x : α} {q : List α} (h : QuS en E w0 w (.slice (some ⟨g, o, none⟩) n cap) (x :: q)) : QuS en E w0 w (.slice (some ⟨g, o + 1, none⟩) q.length (cap - 1)) q := by
  obtain ⟨g', o', cap', cur, e, h1, h2, h3, h4, h5, h6⟩ := h
  injection e with e1 e2 e3
  injection e1 with e1
  injection e1 with e1 e4
  subst e1; subst e4; subst e3
  rw [List.length_cons] at h3
  refine ⟨g, o + 1, cap - 1, cur, rfl, h1, h2, by omega, by omega, by omega, fun i y hi => ?_⟩
  have := h6 (i + 1) y (by simpa using hi)
  rw [show o + 1 + i = o + (i + 1) from by omega, this]
theorem QuS.last {E : TypeId} {w0 w : World} {g o n : Nat} {x : α} {q : List α} (h : QuS en E w0 w (.slice (some ⟨g, o, none⟩) n 1) (x :: q)) : q = [] ∧ QuS en E w0 w (.slice (some ⟨g, o, none⟩) 0 0) ([] : List α) := by
  obtain ⟨g', o', cap', cur, e, h1, h2, h3, h4, h5, h6⟩ := h
  injection e with e1 e2 e3
  injection e1 with e1
  injection e1 with e1 e4
  subst e1; subst e4; subst e3
  rw [List.length_cons] at h3
  exact ⟨List.eq_nil_of_length_eq_zero (by omega), g, o, 0, cur, rfl, h1, h2, Nat.le_refl _, by omega, by omega, fun i y hi => by simp at hi⟩
variable {P : Program} {ops : Array Oper} {rest : List Oper} {o : Oper} {a : Act} {Q : Exit → Act → World → Prop}
theorem wpList_append_qs {w0 w : World} (hen : ∀ x, (en x).oneCell' = true) (hgd : o.guard = none) (s x : Operand) (T : TypeId) (ho : o.op = .call { callee := .builtin .append, args := #[s, x], argTypes := #[T, T] })
    (E : TypeId) (ht : P.underlying T = some (.slice E)) (z : Value) {bytes : Nat} (hinfo : (P.info? E).map (fun i => (i.zero, i.size, i.bytes)) = some (some z, 1, bytes)) (hzs : z.cells.size = 1)
    (v : Value) (q : List α) (hs : a.eval s = v) (hown : QuS en E w0 w v q) (b : Nat) (y : α) (hx : a.eval x = .slice (some ⟨b, 0, none⟩) 1 1) (hc : w.cell? ⟨b, 0, none⟩ = some (en y))
    (h63 : q.length + 1 ≤ 9223372036854775807) (hbytes : (q.length + 1) * bytes ≤ 140737488355328) (hold : w0.heap.size ≤ w.heap.size)
    (h : ∀ v' w', QuS en E w0 w' v' (q ++ [y]) → w.grownBy w' v.ownBlock → (v'.ownBlock = v.ownBlock ∨ ∃ g, v'.ownBlock = some g ∧ w.heap.size ≤ g) → wpList P ops Q rest (a.put o.dst v') w') : wpList P ops Q (o :: rest) a w := by
  obtain ⟨i, hi, hz0, hz1, hz2⟩ := info_parts hinfo
  obtain ⟨g, of, cap, cur, rfl, h1, h2, h3, h4, h5, h6⟩ := hown
  refine wpList_append_arg w hgd s x T ho E i z 1 bytes ht hi hz0 hz1 hz2 hzs (by decide) g of q.length cap (q.map en) hs (by simp) (fun j u hj => ?_) ⟨b, 0, none⟩ 1 1 [en y] hx rfl (fun j u hu => ?_) (by simpa using hen y) (fun hr j hj => ?_) (by simpa only [maxLen] using h63) hbytes (fun hr => ?_) (fun hr v' w' k1 k2 => ?_)
  · rw [cell_of_row w g (of + j) cur E (0, 0) h2]
    rw [List.getElem?_map] at hj
    obtain ⟨z, hz, rfl⟩ := Option.map_eq_some_iff.1 hj
    exact h6 j z hz
  · match j, hu with
    | 0, hu => simp at hu; subst hu; exact hc
  · obtain rfl : j = 0 := by simpa using hj
    rw [Nat.mul_one, Nat.add_zero, cell_of_row w g (of + q.length) cur E (0, 0) h2, Array.getElem?_eq_getElem (by omega)]
    refine ⟨rfl, ?_⟩
    simp [World.frozen?, h2]
  · rw [Nat.mul_one]
    refine h _ _ ⟨g, of, cap, cur.setIfInBounds (of + q.length) (en y), by rw [List.length_append]; rfl, h1, heap_setCell_same w g (of + q.length) cur E _ h2, by rw [List.length_append]; exact hr, h4, by simpa using h5, fun j u hj => ?_⟩ ⟨rfl, rfl, rfl, (KeepsWalks.setCell w _ _).size, fun k _ hk => Below.heap_setCell _ _ _ k (fun e => hk (by rw [e]; rfl))⟩ (.inl rfl)
    have hl := (List.getElem?_eq_some_iff.1 hj).1
    rw [List.length_append, List.length_singleton] at hl
    by_cases e : j = q.length
    · subst e
      rw [Array.getElem?_setIfInBounds_self_of_lt (by omega)]
      obtain rfl : y = u := by simpa using hj
      rfl
    · rw [List.getElem?_append_left (by omega)] at hj
      rw [Array.getElem?_setIfInBounds_ne (by omega), h6 j u hj]
  · obtain ⟨k3, ⟨_, k4⟩ | ⟨g', cap', cur', rfl, k5, k6, k7, k8, k9, k10⟩⟩ := k1
    · omega
    · refine h _ _ ⟨g', 0, cap', cur', by rw [List.length_append]; rfl, Nat.le_trans hold k5, k6, by rw [List.length_append]; exact k7, k8, by omega, fun j u hj => ?_⟩ ⟨k2.os, k2.tape, k2.output, k2.size, fun k hk _ => k2.block k hk (by simp)⟩ (.inr ⟨g', rfl, k5⟩)
      have hl := (List.getElem?_eq_some_iff.1 hj).1
      rw [List.length_append, List.length_singleton] at hl
      have hk := congrArg (fun l => l[j]?) k10
      try dsimp only at hk
      rw [List.getElem?_take_of_lt (by omega), Array.getElem?_toList] at hk
      rw [Nat.zero_add, hk, show q.map en ++ [en y] = (q ++ [y]).map en from by simp, List.getElem?_map, hj]
      rfl
end
end Go.Proofs.YtohngjkedhpikaaGreatDoor
/-
  KEYWORD, R: whether one comes from a term to another one.
-/



namespace Go.Proofs.YtohngjkedhpikaaGreatDoor
open Go.RowKit Go.Maps
attribute [local go_sem] Old.refl Old.alloc Old.drew Old.setCell OldW.old

theorem zeroIntK {w : World} : (zeroValue 3).run Tryz.prog w = .ok (.int .i64 0) w := Tryz.zeroValue3 w
theorem zeroTxsK {w : World} : (zeroValue 43).run Tryz.prog w = .ok (.slice none 0 0) w := Tryz.zeroValue43 w
/-- the marks of those that were seen -/
def markV (V : List ByteArray) (q : ByteArray) : Option Value := if V.any (fun x => decide (x = q)) then some (.int .i64 1) else none
theorem markV_in {V : List ByteArray} {q : ByteArray} (h : q ∈ V) : markV V q = some (.int .i64 1) := if_pos (List.any_eq_true.2 ⟨q, h, by simp⟩)
theorem markV_out {V : List ByteArray} {q : ByteArray} (h : ¬ q ∈ V) : markV V q = none := if_neg (fun k => by
  obtain ⟨x, hx, e⟩ := List.any_eq_true.1 k
  exact h (by simpa using (of_decide_eq_true e) ▸ hx))
theorem markV_snoc (V : List ByteArray) (y : ByteArray) : markV (V ++ [y]) = fun q => if q = y then some (.int .i64 1) else markV V q := by
  funext q
  by_cases e : q = y
  · rw [if_pos e]; exact markV_in (by simp [e])
  · rw [if_neg e]
    by_cases h : q ∈ V
    · rw [markV_in h]; exact markV_in (by simp [h])
    · rw [markV_out h]; exact markV_out (by simp [h, e])
theorem infoStr : (Tryz.prog.info? 9).map (fun i => (i.zero, i.size, i.bytes)) = some (some (.string ⟨#[]⟩), 1, 16) := by kernel_rfl
/-- a map to slices of texts: L tells what stands there -/
structure Ways (w : World) (b n : Nat) (G : ByteArray → Option Value) (L : ByteArray → List ByteArray) : Prop where
  mp : MapV Tryz.prog 9 Value.string w b n G
  some' : ∀ t v, G t = some v → Txts w v (L t)
  none' : ∀ t, G t = none → L t = []
  small : ∀ t, ∀ s ∈ L t, s.size ≤ 4194304
theorem Ways.old {w W : World} {b n : Nat} {G : ByteArray → Option Value} {L : ByteArray → List ByteArray} (h : Ways w b n G L) (o : Old w W) : Ways W b n G L := ⟨h.mp.old o, fun t v e => (h.some' t v e).old o, h.none', h.small⟩
/-- what is looked up -/
theorem Ways.get {w : World} {b n : Nat} {G : ByteArray → Option Value} {L : ByteArray → List ByteArray} (h : Ways w b n G L) (t : ByteArray) : ∃ a cap, (G t).getD (.slice none 0 0) = .slice a (L t).length cap ∧ Txts w (.slice a (L t).length cap) (L t) := by
  cases hG : G t with
  | none =>
    refine ⟨none, 0, ?_, ?_⟩
    · rw [h.none' t hG]; rfl
    · rw [h.none' t hG]; exact Txts.nil w
  | some v =>
    have hT := h.some' t v hG
    obtain ⟨a, cap, rfl, _, _⟩ := hT.form
    exact ⟨a, cap, rfl, hT⟩
set_option maxRecDepth 100000 in
set_option maxHeartbeats 3200000 in
theorem rings_any (w : World) (wb n : Nat) (G : ByteArray → Option Value) (L : ByteArray → List ByteArray) (goal frm : ByteArray) (U : List ByteArray) (hW : Ways w wb n G L) (hf : frm.size ≤ 4194304) (hU : ∀ t, ∀ s ∈ L t, s ∈ U) (hUl : U.length ≤ 1000000) :
    Calls Tryz.prog 55 #[.map (some wb), .string goal, .string frm] w fun e w' => (∃ r : Bool, e = .returned (.bool r) ∧ (r = true ↔ Rch (fun a b => b ∈ L a) frm goal)) ∧ Old w w' := by
  have HW := Lib.hid hW
  have Hsm : Hid (∀ x, Rch (fun a b => b ∈ L a) frm x → x.size ≤ 4194304) := Lib.hid fun x hx => by
    cases hx with
    | refl => exact hf
    | step _ he => exact hW.small _ x he
  have Hbd : Hid (∀ V i, Bfk (fun a b => b ∈ L a) frm V i → V.length ≤ U.length + 1) := Lib.hid fun V i h => h.bound (U := U) (fun x y hxy => hU x y hxy)
  have hmm := @run_makeMap Tryz.prog
  have hM0 := MapV.made Tryz.prog 9 Value.string w
  have hkf := Lib.hid (keyK (s := frm) (by omega))
  clear hW hU hf
  go_enter Tryz.func55, Tryz.ntmps55
  go_wp2_with (refine wpList_insert_mv rfl _ _ _ _ rfl 9 3 (string_keyed Tryz.underlying9) Value.string (fun _ _ => str_kv) Tryz.underlying54 w.heap.size 0 _ rfl hM0 (by omega) frm _ rfl hkf.out (.int .i64 1) rfl ?_; intro w2 hM2 hg2)
  have ho2 : Old w w2 := ((Old.refl w).alloc _).grown hg2 (fun k e => by have := Option.some.inj e; omega)
  have hs2 := hg2.size
  have hbl := hM2.lt
  have HM2 : Hid (MapV Tryz.prog 9 Value.string w2 w.heap.size 1 (markV [frm])) := Lib.hid (by
    rw [show markV [frm] = fun q => if q = frm then some (.int .i64 1) else none from by
      funext q
      rw [show [frm] = [] ++ [frm] from rfl, markV_snoc]
      rfl]
    exact hM2)
  generalize hmb : w.heap.size = mb at *
  have Hmb := Lib.hid hmb
  clear hmb hM0 hM2 hg2 hkf
  go_loopg [8] (U.length + 2) (fun c x wr => ∃ (V : List ByteArray) (i : Nat), QuS Value.string 9 w wr x (V.drop i) ∧ x.ownBlock ≠ some mb ∧ Bfk (fun a b => b ∈ L a) frm V i ∧ (∀ (j : Nat), j < i → V[j]? ≠ some goal) ∧ MapV Tryz.prog 9 Value.string wr mb V.length (markV V) ∧ U.length + 2 - i ≤ c ∧ i ≤ U.length + 1 ∧ mb < wr.heap.size ∧ Old w wr)
  case atStart =>
    exact ⟨[frm], 0, QuS.one _ ho2.size, by simp [Value.ownBlock]; omega, Bfk.init, fun j hj => absurd hj (Nat.not_lt_zero j), HM2.out.old ((Old.refl w2).alloc _), Nat.le_refl _, Nat.zero_le _, by simp; omega, ho2.alloc _⟩
  case round =>
    clear HM2 hbl hs2 ho2
    obtain ⟨V, i, hQ, hqb, hB, hgo, hM, hc, hiU, hml, ho⟩ := hrel
    have HB := Lib.hid hB
    have HM := Lib.hid hM
    have Hgo := Lib.hid hgo
    have HQ := Lib.hid hQ
    have Hqb := Lib.hid hqb
    obtain ⟨g, off, cap, rfl, hg1, hg2, hcap, hcap2⟩ := hQ.form
    have hil := hB.le
    clear hB hM hgo hQ hqb
    cases hd : V.drop i with
    | nil =>
      have hVl : V.length ≤ i := by simpa using hd
      have Hr : Hid (¬ Rch (fun a b => b ∈ L a) frm goal) := Lib.hid fun hr => by
        rw [HB.out.all hVl] at hr
        obtain ⟨j, hj⟩ := List.getElem?_of_mem hr
        exact Hgo.out j (by have := (List.getElem?_eq_some_iff.1 hj).1; omega) hj
      rw [List.length_nil]
      go_wp2_with fail
      go_ret
      exact ⟨⟨false, rfl, by simpa using Hr.out⟩, ho⟩
    | cons x q =>
      rw [hd] at HQ hcap
      have hx : V[i]? = some x := by
        have := congrArg (fun l => l[0]?) hd
        simpa using this
      have hq : V.drop (i + 1) = q := by
        have := congrArg List.tail hd
        simpa using this
      have hiV := (List.getElem?_eq_some_iff.1 hx).1
      have hxV := List.mem_of_getElem? hx
      have hxs := Hsm.out x (HB.out.sound x hxV)
      have c0 := HQ.out.cell (i := 0) (x := x) rfl
      rw [Nat.add_zero] at c0
      obtain ⟨m, hm⟩ : ∃ m, (x :: q).length = m := ⟨_, rfl⟩
      rw [hm] at HQ hcap ⊢
      rw [List.length_cons] at hm
      have hm0 : (0 : Int) < m := by omega
      have Hd := Lib.hid hd
      have Hx := Lib.hid hx
      have Hq := Lib.hid hq
      have Hm := Lib.hid hm
      by_cases hgx : x = goal
      · have hs : (x.toList == goal.toList) = true := by rw [str_beq]; simpa using hgx
        have Hr : Hid (Rch (fun a b => b ∈ L a) frm goal) := Lib.hid (hgx ▸ HB.out.sound x hxV)
        clear hgx hd hx hq hm hxV
        go_wp2_with fail
        go_ret
        exact ⟨⟨true, rfl, by simpa using Hr.out⟩, ho⟩
      · have hs : (x.toList == goal.toList) = false := by rw [str_beq]; simpa using hgx
        have Hgx := Lib.hid hgx
        obtain ⟨al, cl, hGx, hTx⟩ := HW.out.get x
        have hLl : (L x).length ≤ 9223372036854775807 := by
          obtain ⟨_, _, _, k1, k2⟩ := hTx.form
          omega
        have HGx := Lib.hid hGx
        have HTx := Lib.hid hTx
        have hkx := Lib.hid (keyK (s := x) (by omega))
        clear hgx hd hx hq hm hxV hGx hTx
        go_upto_region 8 with (first
          | (refine wpList_lookup_mv rfl _ _ _ rfl 9 43 (string_keyed Tryz.underlying9) Value.string Tryz.underlying102 (.slice none 0 0) zeroTxsK wb n _ rfl (HW.out.old ho).mp x _ rfl hkx.out _ rfl ?_; rw [HGx.out]))
        obtain ⟨bt, ot, hat, htx⟩ := HTx.out.at1
        have Hat := Lib.hid hat
        have Htx := Lib.hid htx
        have Hgo1 : Hid (∀ (j : Nat), j < i + 1 → V[j]? ≠ some goal) := Lib.hid fun j hj e => by
          rcases Nat.lt_or_ge j i with h | h
          · exact Hgo.out j h e
          · obtain rfl : j = i := by omega
            rw [Hx.out] at e
            exact Hgx.out (Option.some.inj e)
        clear hat htx hs c0 hkx HGx
        go_loopw [8, 32] (fun u j wx => ∃ (V : List ByteArray) (k : Nat), j = .int .i64 k ∧ k ≤ (L x).length ∧ QuS Value.string 9 w wx u (V.drop i) ∧ u.ownBlock ≠ some mb ∧ Bfk (fun a b => b ∈ L a) frm V i ∧ V[i]? = some x ∧ (∀ (j : Nat), j < i + 1 → V[j]? ≠ some goal) ∧ MapV Tryz.prog 9 Value.string wx mb V.length (markV V) ∧ (∀ (j : Nat) (y : ByteArray), j < k → (L x)[j]? = some y → y ∈ V) ∧ mb < wx.heap.size ∧ Old w wx) (fun _ j _ => (L x).length - (intOf j).toNat)
        case atStart => exact ⟨V, 0, rfl, Nat.zero_le _, by rw [Hd.out]; exact HQ.out, Hqb.out, HB.out, Hx.out, Hgo1.out, HM.out, fun j y hj => absurd hj (Nat.not_lt_zero j), hml, ho⟩
        case round =>
          clear HQ Hqb HB HM Hgo Hgo1 Hd Hx Hq Hm hiV hil hcap hcap2 hg1 hg2 hm0 hml
          obtain ⟨V, k, rfl, hk, hQ, hqb, hB, hx, hgo, hM, hall, hml, ho⟩ := hrel
          obtain ⟨g, off, cap, rfl, hg1, hg2, hcap, hcap2⟩ := hQ.form
          have HQ := Lib.hid hQ
          have Hqb := Lib.hid hqb
          have HB := Lib.hid hB
          have Hx := Lib.hid hx
          have Hgo := Lib.hid hgo
          have HM := Lib.hid hM
          have Hall := Lib.hid hall
          have hiV := (List.getElem?_eq_some_iff.1 hx).1
          have hVb := Hbd.out V i hB
          have hql : (V.drop i).length ≤ 1000001 := by rw [List.length_drop]; omega
          obtain ⟨q0, hq0⟩ : ∃ q0, V.drop i = q0 := ⟨_, rfl⟩
          rw [hq0] at HQ hcap hql
          rw [hq0]
          have Hq0 := Lib.hid hq0
          clear hQ hqb hB hx hgo hM hall hq0
          by_cases hlt : k < (L x).length
          · have hi : (k : Int) < (L x).length := by omega
            obtain ⟨y, hy⟩ : ∃ y, (L x)[k]? = some y := ⟨_, List.getElem?_eq_getElem hlt⟩
            obtain rfl := Hat.out (by omega)
            have ck := Htx.out k y hy _ ho
            have hyL := List.mem_of_getElem? hy
            have hys := Hsm.out y (.step (HB.out.sound x (List.mem_of_getElem? Hx.out)) hyL)
            have hky := Lib.hid (keyK (s := y) (by omega))
            have Hnx : Hid (∀ V' : List ByteArray, (∀ z, z ∈ V → z ∈ V') → y ∈ V' → ∀ (j : Nat) (z : ByteArray), j < k + 1 → (L x)[j]? = some z → z ∈ V') := Lib.hid fun V' h1 h2 j z hj hz => by
              rcases Nat.lt_or_ge j k with h | h
              · exact h1 z (Hall.out j z h hz)
              · obtain rfl : j = k := by omega
                obtain rfl := Option.some.inj (hy.symm.trans hz)
                exact h2
            clear hy
            by_cases hin : y ∈ V
            · have Hin := Lib.hid hin
              have Hmk := Lib.hid (markV_in hin)
              clear hin hyL
              go_wp2_with (refine wpList_lookup_mv rfl _ _ _ rfl 9 3 (string_keyed Tryz.underlying9) Value.string Tryz.underlying54 (.int .i64 0) zeroIntK mb _ _ rfl HM.out y _ rfl hky.out _ Hmk.out ?_; rw [show (some (Value.int .i64 1)).getD (.int .i64 0) = .int .i64 1 from rfl])
              go_roundw
              case rel => exact ⟨V, k + 1, by go_num, by omega, by rw [Hq0.out]; exact HQ.out, Hqb.out, HB.out, Hx.out, Hgo.out, HM.out, Hnx.out V (fun _ h => h) Hin.out, hml, ho⟩
              case measure => simp [intOf]; omega
            · have HB1 := Lib.hid (HB.out.put (List.mem_of_getElem? Hx.out) hyL hin)
              have Hmk := Lib.hid (markV_out hin)
              have Hmk1 := Lib.hid (markV_snoc V y)
              have Hdr : Hid ((V ++ [y]).drop i = q0 ++ [y]) := Lib.hid (by rw [← Hq0.out]; exact List.drop_append_of_le_length (by omega))
              clear hin hyL
              have hgb : (Value.slice (some ⟨g, off, none⟩) q0.length cap).ownBlock ≠ some mb := Hqb.out
              go_wp2_with (first
                | (refine wpList_lookup_mv rfl _ _ _ rfl 9 3 (string_keyed Tryz.underlying9) Value.string Tryz.underlying54 (.int .i64 0) zeroIntK mb _ _ rfl HM.out y _ rfl hky.out _ Hmk.out ?_; rw [show (none : Option Value).getD (.int .i64 0) = .int .i64 0 from rfl])
                | (refine wpList_update_mv rfl _ _ _ _ rfl 9 3 (string_keyed Tryz.underlying9) Value.string (fun _ _ => str_kv) Tryz.underlying54 mb _ _ rfl HM.out (by omega) y _ rfl hky.out (.int .i64 1) rfl ?_; intro w3 hM3 hg3; have HQ3 := Lib.hid (HQ.out.kept hg3 Hqb.out); have hs3 := hg3.size; have ho3 : Old w w3 := ho.grown hg3 (fun b hb => by have := Option.some.inj hb; have := Hmb.out; omega))
                | (at_builtin; go_loud (refine wpList_append_qs (en := Value.string) (w0 := w) (fun _ => rfl) rfl _ _ 43 rfl 9 Tryz.underlying43 (.string ⟨#[]⟩) infoStr rfl _ q0 rfl (HQ3.out.old ((Old.refl w3).alloc _)) w3.heap.size y rfl (by simp [go_sem]) (by omega) (by omega) (by have := ho3.size; simp; omega) ?_); intro v4 w4 hQ4 hg4 hat4))
              rw [← Hmk1.out] at hM3
              have hM4 := (hM3.old ((Old.refl w3).alloc _)).kept hg4 (fun e => hgb e.symm)
              have hold4 : Old w w4 := (ho3.alloc _).grown hg4 (fun b hb => by have := Option.some.inj hb; dsimp only at this; omega)
              have hne4 : v4.ownBlock ≠ some mb := by
                rcases hat4 with e | ⟨g4, e, hg4l⟩
                · rw [e]; exact hgb
                · rw [e]
                  intro e2
                  have := Option.some.inj e2
                  simp at hg4l
                  omega
              have hs4 := hg4.size
              rw [← Hdr.out] at hQ4
              have HQ4 := Lib.hid hQ4
              have HM4 := Lib.hid hM4
              clear hM3 hM4 hQ4 hat4 hg3 hg4
              go_roundw
              case rel => exact ⟨V ++ [y], k + 1, by go_num, by omega, HQ4.out, hne4, HB1.out, by rw [List.getElem?_append_left hiV]; exact Hx.out, fun j hj => by rw [List.getElem?_append_left (by omega)]; exact Hgo.out j hj, by rw [List.length_append]; exact HM4.out, Hnx.out _ (fun z h => List.mem_append_left _ h) (by simp), by simp at hs4; omega, hold4⟩
              case measure => simp [intOf]; omega
          · obtain rfl : k = (L x).length := by omega
            have hi : ¬ ((L x).length : Int) < (L x).length := by omega
            have HB1 := Lib.hid (HB.out.next Hx.out fun y hy => by
              obtain ⟨j, hj⟩ := List.getElem?_of_mem hy
              exact Hall.out j y (List.getElem?_eq_some_iff.1 hj).1 hj)
            obtain ⟨q, hq⟩ : ∃ q, V.drop i = x :: q ∧ V.drop (i + 1) = q := by
              refine ⟨V.drop (i + 1), ?_, rfl⟩
              rw [List.drop_eq_getElem_cons hiV]
              have := List.getElem?_eq_getElem hiV
              rw [Hx.out] at this
              rw [← Option.some.inj this]
            obtain ⟨hq1, hq2⟩ := hq
            rw [Hq0.out] at hq1
            subst hq1
            obtain ⟨m, hm⟩ : ∃ m, (x :: q).length = m := ⟨_, rfl⟩
            have hqb2 : g ≠ mb := fun e => Hqb.out (by rw [e]; rfl)
            rw [hm]
            rw [hm] at HQ hcap
            rw [List.length_cons] at hm
            have hm0 : (0 : Int) < m := by omega
            have hm1 : (1 : Int) ≤ m := by omega
            have hm2 : (m : Int) ≤ cap := by omega
            have hcp : (1 : Int) ≤ cap := by omega
            have Hm := Lib.hid hm
            have Hq2 := Lib.hid hq2
            clear hq2 hm Hqb
            go_upto_region 4 with fail
            go_cut [8] (fun u wy => QuS Value.string 9 w wr u q ∧ u.ownBlock ≠ some mb ∧ wr = wy)
            case first =>
              go_wp2_with fail
              · have hcap1 : cap = 1 := by assumption
                rw [hcap1] at HQ hcap
                obtain ⟨hq, hq0⟩ := HQ.out.last
                go_meet
                have hm10 : m - 1 = 0 := by omega
                refine ⟨?_, fun e => hqb2 (Option.some.inj e), rfl⟩
                rw [hq]
                simpa [hm10] using hq0
              · go_meet
                refine ⟨?_, fun e => hqb2 (Option.some.inj e), rfl⟩
                have h := HQ.out.tail
                have hml : q.length = m - 1 := by have := Hm.out; omega
                rw [hml] at h
                simpa using h
            case rest =>
              obtain ⟨hQ2, hqb3, rfl⟩ := hcut
              have HQ2 := Lib.hid hQ2
              have Hq3 := Lib.hid hqb3
              clear hQ2 hqb3
              go_wp2_with fail
              go_roundg (gk - 1)
              case measure => omega
              case rel => exact ⟨V, i + 1, by rw [Hq2.out]; exact HQ2.out, Hq3.out, HB1.out, Hgo.out, HM.out, by omega, by omega, hml, ho⟩
end Go.Proofs.YtohngjkedhpikaaGreatDoor
