/-
  TOC, TREES: told, entries.
-/
import Derived.Test.YtigpjfebnppejaaTocFault
namespace Go.Proofs.Ytigpjfebnppejaa
open Go.RowKit
attribute [local go_sem] Old.refl Old.alloc Old.drew Old.setCell OldW.old

def wrongV (f : Flt) : Value := .agg #[.int .i64 f.code, .int .i64 f.src, .int .i64 f.line, .int .i64 f.col, .string f.word]
set_option maxHeartbeats 1600000 in
theorem told_nil (w : World) : Calls Try.prog 37 #[.nilIface, wrongV ⟨0, 0, 0, 0, ⟨#[]⟩⟩] w fun e w' => e = .returned (.bool true) ∧ Old w w' := by
  unfold wrongV
  go_enter Try.func37, Try.ntmps37
  go_wp2_with fail
  go_ret
  exact ⟨rfl, (Old.refl w).alloc _⟩
set_option maxRecDepth 100000 in
set_option maxHeartbeats 1600000 in
theorem told_err {w : World} {v : Value} {f : Flt} (h : IsErr w v f.code f.src f.line f.col f.word) (hc : ¬ f.code = 0) : Calls Try.prog 37 #[v, wrongV f] w fun e w' => e = .returned (.bool true) ∧ Old w w' := by
  have hT := fun W (o : Old w W) => Told_any (h.old o)
  obtain ⟨g, rfl, hcs⟩ := h
  have hcb : (f.code == 0) = false := by rw [beq_eq_false_iff_ne]; exact hc
  have hs : (f.word.toList == f.word.toList) = true := by simp
  clear hcs
  unfold wrongV
  go_enter Try.func37, Try.ntmps37
  go_wp2_with fail
  refine (hT _ ((Old.refl w).alloc _)).mono ?_
  rintro e w1 ⟨rfl, ho⟩
  unfold fltC
  have hk := ho.size
  have c0 := ho.cell (p := ⟨w.heap.size, 0, none⟩) (by simp [go_sem]; rfl)
  have c1 := ho.cell (p := ⟨w.heap.size, 1, none⟩) (by simp [go_sem]; rfl)
  have c2 := ho.cell (p := ⟨w.heap.size, 2, none⟩) (by simp [go_sem]; rfl)
  have c3 := ho.cell (p := ⟨w.heap.size, 3, none⟩) (by simp [go_sem]; rfl)
  have c4 := ho.cell (p := ⟨w.heap.size, 4, none⟩) (by simp [go_sem]; rfl)
  have hlt : w.heap.size < w1.heap.size := by have := ho.size; simp [go_sem] at this; omega
  have hne : ¬ w1.heap.size = w.heap.size := by omega
  go_wp2_with fail
  go_ret
  exact ⟨rfl, (((Old.refl w).alloc _).trans ho).alloc _⟩
end Go.Proofs.Ytigpjfebnppejaa
