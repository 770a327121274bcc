/-
  TEXT, KEEPS, MEMORY: a builder read whole; bytes that are laid over: made of a text, written by copy, read as a text.
-/
import Derived.Test.YtjkpmdckpfklgaaDoorTextKeepsP
import Derived.Test.YtjkpmdckpfklgaaDoorBuilder2
import Derived.Test.YtjkpmdckpfklgaaDoorTextRefF
import Derived.Lib.LazyBuf
import Derived.Shelf.Strings.BuilderK
namespace Go.Proofs.YtjkpmdckpfklgaaDoor
open Go.RowKit

theorem String_kept (B b : Nat) (l : List UInt8) (w : World) (h : Bld B b (Lib.byteCells l) w) (hBw : B ≤ w.heap.size) :
    Calls Tryd.prog 28 #[.pointer (some ⟨b, 0, none⟩)] w fun e w' => e = .returned (.string ⟨l.toArray⟩) ∧ Below B w w' ∧ Lib.OthersKept 5 (some b) w w' := by
  by_cases h0 : l = []
  · subst h0
    exact (Any.Builder_String_empty_k Tryd.lays169 Tryd.Builder_Extra_169 B b w (Lib.IsBuilderF.of h) hBw).mono fun e w' h => ⟨h.1, h.2.2.1, h.2.2.2⟩
  · exact (Any.Builder_String_k Tryd.lays169 Tryd.Builder_Extra_169 B b l w (Lib.IsBuilderF.of h) h0).mono fun e w' h => ⟨h.1, h.2.2.1, h.2.2.2⟩
/-- block g's cells from 0 on are these bytes, and may be written -/
def Laid (w : World) (g : Nat) (B : List UInt8) : Prop := ∀ j, j < B.length → w.cell? ⟨g, j, none⟩ = some (.int .u8 (B.getD j 0).toNat) ∧ w.frozen? ⟨g, j, none⟩ = false
theorem Laid.old {w W : World} {g : Nat} {B : List UInt8} (h : Laid w g B) (o : Old w W) : Laid W g B := fun j hj => by
  obtain ⟨h1, h2⟩ := h j hj
  refine ⟨o.cell h1, ?_⟩
  rw [← h2]
  have hb := World.block_lt_of_cell? w _ h1
  unfold World.frozen?
  rw [o.block g hb]
/-- '[]byte(s)', to be written -/
theorem conv_laid (w : World) (s : ByteArray) (hz : s.size ≤ 4194304) : ∃ cap W, (convert 9 46 (.string s)).run Tryd.prog w = .ok (.slice (some ⟨w.heap.size, 0, none⟩) s.size cap) W ∧ s.size ≤ cap ∧ cap ≤ 9223372036854775807 ∧ Laid W w.heap.size s.data.toList ∧ Old w W ∧ w.heap.size < W.heap.size := by
  have hcap := grownCap_ge w s.size 0 5
  have hmax := grownCap_le_maxLen w s.size 0 5 (by simp [maxLen]; omega)
  refine ⟨_, _, run_bytes_of_string w 9 46 5 s Tryd.underlying9 Tryd.underlying46 Tryd.underlying5, hcap, by simpa [maxLen] using hmax, fun j hj => ?_, (Old.refl w).drew.alloc _, by simp⟩
  rw [str_len] at hj
  have hj' : j < s.data.size := hj
  refine ⟨(World.cell?_alloc_mark w.drew _ 5 _ j).trans ?_, ?_⟩
  · simp [bytesRow, Array.getElem?_append]
    rw [if_pos hj, Array.getElem?_eq_getElem hj']
    simp
  · have := World.frozen?_alloc_mark w.drew (bytesRow s (grownCap w s.size 0 5)) 5 (bytesRow s (grownCap w s.size 0 5)).size ((bytesRow s (grownCap w s.size 0 5)).size + 1) j
    refine this.trans ?_
    have hsz : s.size ≤ (bytesRow s (grownCap w s.size 0 5)).size := by simp [bytesRow]
    simp; omega
theorem strNums_bytes (B : List UInt8) : strOfNums (B.map fun b => (b.toNat : Int)) = ⟨B.toArray⟩ := by
  unfold strOfNums
  congr 1
  apply Array.toList_inj.1
  simp [Function.comp_def]
/-- 'string(b)' -/
theorem conv_back {w : World} {g : Nat} {B : List UInt8} {cap : Nat} (h : Laid w g B) : (convert 46 9 (.slice (some ⟨g, 0, none⟩) B.length cap)).run Tryd.prog w = .ok (.string ⟨B.toArray⟩) w := by
  have := run_convert_bytes_arg (P := Tryd.prog) w 46 5 Tryd.underlying46 Tryd.underlying5 g 0 B.length cap (B.map fun b => (b.toNat : Int)) (by simp) (fun i hi => by
    rw [Nat.zero_add, (h i hi).1]
    simp [List.getD, hi]) 9 Tryd.underlying9
  rw [this, strNums_bytes]
/-- copy of a text into such bytes, as far as it goes -/
theorem laid_copy {w : World} {g : Nat} {l B : List UInt8} {x : CellR} (h : Laid w g B) (hx : x.a < x.e ∧ x.e ≤ l.length) (hB : B.length = l.length) :
    Laid (w.setCells g x.a (((l.drop x.a).take (x.e - x.a)).map fun b => Value.int .u8 (b.toNat : Int))) g (bareUp l B x) := by
  have hlen : (((l.drop x.a).take (x.e - x.a)).map fun b => Value.int .u8 (b.toNat : Int)).length = x.e - x.a := by rw [List.length_map, List.length_take, List.length_drop]; omega
  intro j hj
  rw [bareUp_len hx hB] at hj
  have hjB : j < B.length := by omega
  have hget := bareUp_get hx hB j
  have hup : (bareUp l B x).getD j 0 = if x.a ≤ j ∧ j < x.e then l.getD j 0 else B.getD j 0 := by
    rw [List.getD_eq_getElem?_getD, hget]
    split <;> rw [List.getD_eq_getElem?_getD]
  rw [hup, World.frozen?_setCells]
  refine ⟨?_, (h j hjB).2⟩
  by_cases hc : x.a ≤ j ∧ j < x.e
  · rw [if_pos hc]
    have := World.cell?_setCells_in g (((l.drop x.a).take (x.e - x.a)).map fun b => Value.int .u8 (b.toNat : Int)) x.a w (fun i hi => by rw [hlen] at hi; rw [(h (x.a + i) (by omega)).1]; rfl) (j - x.a) (by rw [hlen]; omega)
    rw [show x.a + (j - x.a) = j by omega] at this
    rw [this]
    have hjl : j < l.length := by omega
    rw [List.getD_eq_getElem?_getD, List.getElem?_eq_getElem hjl]
    simp [show x.a + (j - x.a) = j by omega]
  · rw [if_neg hc, World.cell?_setCells_out g _ _ _ _ (fun _ _ => by rw [hlen]; show j < x.a ∨ x.a + (x.e - x.a) ≤ j; omega)]
    exact (h j hjB).1
theorem OldBut.setCells {g : Nat} (w : World) (o : Nat) (vs : List Value) : OldBut g w (w.setCells g o vs) := by
  induction vs generalizing o w with
  | nil => exact OldBut.refl g w
  | cons v r ih => exact ((OldBut.refl g w).setCell o v).trans (ih _ (o + 1))
section
variable {P : Program} {ops : Array Oper} {rest : List Oper} {o : Oper} {a : Act} {Q : Exit → Act → World → Prop}
theorem wpList_copy_string {w : World} (hgd : o.guard = none) (d x : Operand) (dT sT : TypeId) (hop : o.op = Op.call { callee := Callee.builtin Builtin.copy, args := #[d, x], argTypes := #[dT, sT] })
    (elem : TypeId) (hu : P.underlying dT = some (.slice elem)) (hz : ∀ w, (Go.sizeOf elem).run P w = .ok 1 w)
    (b off dLen dCap : Nat) (hd : a.eval d = .slice (some ⟨b, off, none⟩) dLen dCap) (t : ByteArray) (hx : a.eval x = .string t) (hle : t.size ≤ dLen)
    (hc : ∀ j, j < t.size → (w.cell? ⟨b, off + j, none⟩).isSome = true) (hf : ∀ j, j < t.size → w.frozen? ⟨b, off + j, none⟩ = false)
    (h : wpList P ops Q rest (a.put o.dst (goInt t.size)) (w.setCells b off (t.data.toList.map fun x => Value.int .u8 (x.toNat : Int)))) : wpList P ops Q (o :: rest) a w := by
  refine wpList_plain hgd fun K hK => ?_
  have hrun := Go.run_copy_string (P := P) w dT sT o.type elem b off dLen dCap t hu hz hle hc hf
  unfold Oper.wp
  simp [execOp, hop, resolve, invoke, builtin, hd, hx, hrun, Result.andThen]
  exact hK _ _ h
end
end Go.Proofs.YtjkpmdckpfklgaaDoor
