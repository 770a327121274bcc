/-
  TOC, FAULTS: New, is, gather, All, Told at an error that New made.
-/
import Derived.Test.YtkaoipegbjmlnaaDoorZRecs
import Derived.Test.YtkaoipegbjmlnaaDoorProg
import Derived.Stop.Asserts
import Derived.Handy
namespace Go.Proofs.YtkaoipegbjmlnaaDoor
open Go.RowKit
attribute [local go_sem] Old.refl Old.alloc Old.drew Old.setCell OldW.old

/-- the cells of an error of ours -/
def errC (code src line col : Int) (word : ByteArray) : Array Value := #[.int .i64 1, .int .i64 code, .int .i64 src, .int .i64 line, .int .i64 col, .string word, .slice none 0 0]
def IsErr (w : World) (v : Value) (code src line col : Int) (word : ByteArray) : Prop :=
  ∃ g, v = .iface 88 (.pointer (some ⟨g, 0, none⟩)) ∧ ∀ j u, (errC code src line col word)[j]? = some u → ∀ W, Old w W → W.cell? ⟨g, j, none⟩ = some u
theorem IsErr.old {w W : World} {v : Value} {code src line col : Int} {word : ByteArray} (h : IsErr w v code src line col word) (o : Old w W) : IsErr W v code src line col word := by
  obtain ⟨g, e, h⟩ := h
  exact ⟨g, e, fun j u hu V oV => h j u hu V (o.trans oV)⟩
set_option maxHeartbeats 800000 in
theorem FNew_any (code src line col : Int) (word : ByteArray) (w : World) (hc : ¬ code = 0) :
    Calls Tryd.prog 13 #[.int .i64 code, .int .i64 src, .int .i64 line, .int .i64 col, .string word] w fun e w' => (∃ v, e = .returned v ∧ IsErr w' v code src line col word) ∧ Old w w' := by
  go_enter Tryd.func13, Tryd.ntmps13
  go_wp2_with fail
  go_ret
  refine ⟨⟨_, rfl, _, rfl, fun j u hu => later ?_⟩, (Old.refl w).alloc _⟩
  simp [go_sem]
  simpa [errC] using hu
set_option maxHeartbeats 800000 in
theorem is_any {w : World} {g : Nat} (h : ∀ W, Old w W → W.cell? ⟨g, 0, none⟩ = some (.int .i64 1)) :
    Calls Tryd.prog 48 #[.pointer (some ⟨g, 0, none⟩)] w fun e w' => e = .returned (.bool true) ∧ w = w' := by
  have h0 := h w (Old.refl w)
  go_enter Tryd.func48, Tryd.ntmps48
  go_wp2_with fail
  go_ret
  exact ⟨rfl, rfl⟩
/-- a fault's cells; no trail -/
structure Flt where
  code : Int
  src : Int
  line : Int
  col : Int
  word : ByteArray
def fltC (f : Flt) : List Value := [.int .i64 f.code, .int .i64 f.src, .int .i64 f.line, .int .i64 f.col, .string f.word, .slice none 0 0]
def encFlt : Enc Flt := ⟨6, fltC, fun _ => rfl, fun x u hu => by
  simp only [fltC, List.mem_cons, List.not_mem_nil, or_false] at hu
  rcases hu with rfl | rfl | rfl | rfl | rfl | rfl <;> rfl⟩
/-- 'x, ok := e.(*T)' at that very pointer type -/
theorem run_typeAssert_ptr {P : Program} {t e : TypeId} (ht : P.underlying t = some (.pointer e)) (v : Value) (xT : TypeId) (w : World) : (Instr.typeAssert (.iface t v) xT t true).run P w = .ok (.tuple #[v, .bool true]) w := by
  simp [Instr.typeAssert, run_underlying ht]
theorem infoFlt : (Tryd.prog.info? 76).map (fun i => (i.zero, i.size, i.bytes)) = some (some (.agg #[.int .i64 0, .int .i64 0, .int .i64 0, .int .i64 0, .string ⟨#[]⟩, .slice none 0 0]), 6, 72) := by kernel_rfl
theorem Recs.oneAt {α : Type} {c : Enc α} (w : World) (E : TypeId) (x : α) {b : Nat} (hb : w.heap.size = b) : Recs c (w.alloc (.cells (c.enc x).toArray E)) (.slice (some ⟨b, 0, none⟩) 1 1) [x] := by
  subst hb; exact Recs.one w E x
set_option maxRecDepth 100000 in
set_option maxHeartbeats 1600000 in
theorem gather_any {w : World} {v : Value} {f : Flt} (h : IsErr w v f.code f.src f.line f.col f.word) :
    Calls Tryd.prog 34 #[v, .agg #[.int .i64 0, .int .i64 0, .slice none 0 0], .slice none 0 0] w fun e w' => (∃ u, e = .returned u ∧ Recs encFlt w' u [f]) ∧ Old w w' := by
  obtain ⟨g, rfl, hc⟩ := h
  have h0 := hc 0 _ rfl
  have h1 := hc 1 _ rfl
  have h2 := hc 2 _ rfl
  have h3 := hc 3 _ rfl
  have h4 := hc 4 _ rfl
  have h5 := hc 5 _ rfl
  have h6 := hc 6 _ rfl
  have hTA := fun w => run_typeAssert_ptr Tryd.underlying88 (.pointer (some ⟨g, 0, none⟩)) 26 w
  have hC : errC f.code f.src f.line f.col f.word = #[.int .i64 1, .int .i64 f.code, .int .i64 f.src, .int .i64 f.line, .int .i64 f.col, .string f.word, .slice none 0 0] := rfl
  clear hc
  simp only [errC, List.getElem_toArray, List.getElem_cons_zero, List.getElem_cons_succ] at h0 h1 h2 h3 h4 h5 h6
  clear hC
  go_enter Tryd.func34, Tryd.ntmps34
  go_wp2_with (first
    | (go_at_call 48; refine (is_any (g := g) (fun V oV => h0 V (((Old.refl w).alloc _).trans oV))).mono ?_; rintro e w1 ⟨rfl, rfl⟩)
    | (at_builtin; (refine wpList_append_recs (w0 := w) (c := encFlt) rfl _ _ 92 rfl 76 Tryd.underlying92 _ infoFlt rfl (by decide) _ [] [f] rfl (OwnS.nil _ _ _ _) _ rfl (Recs.oneAt (c := encFlt) _ 76 f (by simp [go_sem])) (by simp) (by simp) ((((Old.refl w).alloc _).alloc _).alloc _) ?_); intro v' w3 hown3 ho3 _))
  go_ret
  exact ⟨⟨_, rfl, hown3.recs⟩, ho3⟩
theorem frozen_old {w W : World} (h : Old w W) {p : Addr} (hb : p.block < w.heap.size) : W.frozen? p = w.frozen? p := by
  have := h.block p.block hb
  unfold World.frozen?
  rw [this]
set_option maxRecDepth 100000 in
set_option maxHeartbeats 1600000 in
theorem Told_any {w : World} {v : Value} {f : Flt} (h : IsErr w v f.code f.src f.line f.col f.word) :
    Calls Tryd.prog 16 #[v] w fun e w' => e = .returned (.agg (fltC f).toArray) ∧ Old w w' := by
  have hg := fun W (o : Old w W) => gather_any (h.old o)
  obtain ⟨g, rfl, hc⟩ := h
  have hA : ∀ W, Old w W → Calls Tryd.prog 25 #[.iface 88 (.pointer (some ⟨g, 0, none⟩))] W fun e w' => (∃ u, e = .returned u ∧ Recs encFlt w' u [f]) ∧ Old W w' := by
    intro W hW
    have hg' := hg W hW
    clear hg hc
    go_enter Tryd.func25, Tryd.ntmps25
    go_wp2_with fail
    refine hg'.mono ?_
    rintro e w1 ⟨⟨u, rfl, hu⟩, ho⟩
    obtain ⟨a, cap, rfl, _, _⟩ := hu.form
    go_wp2_with fail
    go_ret
    exact ⟨⟨_, rfl, hu⟩, ho⟩
  clear hg hc
  go_enter Tryd.func16, Tryd.ntmps16
  go_wp2_with fail
  refine (hA _ ((Old.refl w).alloc _)).mono ?_
  rintro e w1 ⟨⟨u, rfl, hu⟩, ho⟩
  obtain ⟨a, cap, b, off, rfl, _, _, ha, ht⟩ := hu
  obtain rfl := ha (by simp)
  have t0 : ∀ W, Old w1 W → W.cell? ⟨b, off, none⟩ = some (.int .i64 f.code) := ht 0 _ rfl
  have t1 : ∀ W, Old w1 W → W.cell? ⟨b, off + 1, none⟩ = some (.int .i64 f.src) := ht 1 _ rfl
  have t2 : ∀ W, Old w1 W → W.cell? ⟨b, off + 2, none⟩ = some (.int .i64 f.line) := ht 2 _ rfl
  have t3 : ∀ W, Old w1 W → W.cell? ⟨b, off + 3, none⟩ = some (.int .i64 f.col) := ht 3 _ rfl
  have t4 : ∀ W, Old w1 W → W.cell? ⟨b, off + 4, none⟩ = some (.string f.word) := ht 4 _ rfl
  have t5 : ∀ W, Old w1 W → W.cell? ⟨b, off + 5, none⟩ = some (.slice none 0 0) := ht 5 _ rfl
  have k0 : w.heap.size < w1.heap.size := by have := ho.size; simp [go_sem] at this; omega
  have c0 := ho.cell (p := ⟨w.heap.size, 0, none⟩) (by simp [go_sem]; rfl)
  have c1 := ho.cell (p := ⟨w.heap.size, 1, none⟩) (by simp [go_sem]; rfl)
  have c2 := ho.cell (p := ⟨w.heap.size, 2, none⟩) (by simp [go_sem]; rfl)
  have c3 := ho.cell (p := ⟨w.heap.size, 3, none⟩) (by simp [go_sem]; rfl)
  have c4 := ho.cell (p := ⟨w.heap.size, 4, none⟩) (by simp [go_sem]; rfl)
  have c5 := ho.cell (p := ⟨w.heap.size, 5, none⟩) (by simp [go_sem]; rfl)
  have hf : ∀ j, w1.frozen? ⟨w.heap.size, j, none⟩ = false := fun j => by
    rw [frozen_old ho (by simp [go_sem])]
    simp [go_sem]
  clear ht ha hA
  go_wp2_with fail
  (try simp only [Exit.inBlock, Exit.then])
  refine bodyPost_ret (v := .agg (fltC f).toArray) (by simp [results, Tryd.results16, go_sem, c0, c1, c2, c3, c4, c5, fltC]) rfl ⟨rfl, ?_⟩
  have ho' := (((Old.refl w).alloc _).trans ho)
  exact (((((ho'.setCell (Nat.le_refl _) _).setCell (Nat.le_refl _) _).setCell (Nat.le_refl _) _).setCell (Nat.le_refl _) _).setCell (Nat.le_refl _) _).setCell (Nat.le_refl _) _
end Go.Proofs.YtkaoipegbjmlnaaDoor
