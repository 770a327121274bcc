/-
  SOURCES AND THEIR DIRECTORY, PLAIN: how sources lie, what the directory of them holds; over no program.
-/
import Derived.Test.YtpifkinlaicliaaGreatDoorZDeep
import Derived.Test.YtpifkinlaicliaaGreatDoorZNamesP
import Derived.Test.YtpifkinlaicliaaGreatDoorZMapsT
import Derived.Test.YtpifkinlaicliaaGreatDoorZRecs
import Derived.Test.YtpifkinlaicliaaGreatDoorProg
import Derived.Stop.Asserts
import Derived.Handy
namespace Go.Proofs.YtpifkinlaicliaaGreatDoor
open Go.RowKit

/-- a topic -/
structure Tq where
  kind : Int
  name : ByteArray
  title : ByteArray
  n3 : Int
  s4 : Sl
  s5 : Sl
  s6 : Sl
  line : Int
def tqE : Enc Tq := ⟨8, fun x => [.int .i64 x.kind, .string x.name, .string x.title, .int .i64 x.n3, x.s4.v, x.s5.v, x.s6.v, .int .i64 x.line], fun _ => rfl, fun x u hu => by
  simp only [List.mem_cons, List.not_mem_nil, or_false] at hu
  rcases hu with rfl | rfl | rfl | rfl | rfl | rfl | rfl | rfl <;> rfl⟩
def sqE : Enc (Sl × Sl) := ⟨2, fun x => [x.1.v, x.2.v], fun _ => rfl, fun x u hu => by
  simp only [List.mem_cons, List.not_mem_nil, or_false] at hu
  rcases hu with rfl | rfl <;> rfl⟩
def SqR (w : World) (x : Sl × Sl) (T : List Tq) : Prop := Recs tqE w x.2.v T
def Sqs (w : World) (v : Value) (S : List (List Tq)) : Prop := Seqs sqE SqR w v S
theorem Sqs.old {w W : World} {v : Value} {S : List (List Tq)} (h : Sqs w v S) (o : Old w W) : Sqs W v S := Seqs.old (c := sqE) (R := SqR) (fun _ _ _ _ h o => Recs.old h o) h o
theorem Sqs.open {w : World} {a : Option Addr} {n cap : Nat} {S : List (List Tq)} (h : Sqs w (.slice a n cap) S) : ∃ b off, (0 < S.length → a = some ⟨b, off, none⟩) ∧ ∀ (i : Nat) (T : List Tq), S[i]? = some T →
    ∃ a0 n0 c0 ax cx, (∀ V, Old w V → V.cell? ⟨b, off + i * 2, none⟩ = some (.slice a0 n0 c0) ∧ V.cell? ⟨b, off + i * 2 + 1, none⟩ = some (.slice ax T.length cx)) ∧ Recs tqE w (.slice ax T.length cx) T ∧ T.length ≤ cx ∧ cx ≤ 9223372036854775807 := by
  obtain ⟨b, off, ha, h⟩ := Seqs.at h
  refine ⟨b, off, ha, fun i T hT => ?_⟩
  obtain ⟨⟨⟨a0, n0, c0⟩, ax, m, cx⟩, hR, hc⟩ := h i T hT
  obtain ⟨_, _, e, k1, k2⟩ := Recs.form hR
  obtain ⟨rfl, rfl, rfl⟩ := Value.slice.inj e
  exact ⟨a0, n0, c0, ax, cx, fun V o => ⟨hc 0 _ rfl V o, by have := hc 1 _ rfl V o; rw [← Nat.add_assoc] at this; exact this⟩, hR, k1, k2⟩
theorem Tqs.open {w : World} {a : Option Addr} {n cap : Nat} {T : List Tq} (h : Recs tqE w (.slice a n cap) T) : ∃ b off, (0 < T.length → a = some ⟨b, off, none⟩) ∧ ∀ (i : Nat) (x : Tq), T[i]? = some x →
    ∃ a4 n4 c4 a5 n5 c5 a6 n6 c6, ∀ V, Old w V → V.cell? ⟨b, off + i * 8, none⟩ = some (.int .i64 x.kind) ∧ V.cell? ⟨b, off + i * 8 + 1, none⟩ = some (.string x.name) ∧ V.cell? ⟨b, off + i * 8 + 2, none⟩ = some (.string x.title) ∧ V.cell? ⟨b, off + i * 8 + 3, none⟩ = some (.int .i64 x.n3) ∧
      V.cell? ⟨b, off + i * 8 + 4, none⟩ = some (.slice a4 n4 c4) ∧ V.cell? ⟨b, off + i * 8 + 5, none⟩ = some (.slice a5 n5 c5) ∧ V.cell? ⟨b, off + i * 8 + 6, none⟩ = some (.slice a6 n6 c6) ∧ V.cell? ⟨b, off + i * 8 + 7, none⟩ = some (.int .i64 x.line) := by
  obtain ⟨a', cap', b, off, e, _, _, h3, ht⟩ := h
  obtain ⟨rfl, _, rfl⟩ := Value.slice.inj e
  refine ⟨b, off, h3, fun i x hx => ⟨x.s4.1, x.s4.2.1, x.s4.2.2, x.s5.1, x.s5.2.1, x.s5.2.2, x.s6.1, x.s6.2.1, x.s6.2.2, fun V o => ?_⟩⟩
  have g0 := ht (i * 8 + 0) _ (Enc.all_at (c := tqE) (j := 0) hx rfl) V o
  have g1 := ht (i * 8 + 1) _ (Enc.all_at (c := tqE) (j := 1) hx rfl) V o
  have g2 := ht (i * 8 + 2) _ (Enc.all_at (c := tqE) (j := 2) hx rfl) V o
  have g3 := ht (i * 8 + 3) _ (Enc.all_at (c := tqE) (j := 3) hx rfl) V o
  have g4 := ht (i * 8 + 4) _ (Enc.all_at (c := tqE) (j := 4) hx rfl) V o
  have g5 := ht (i * 8 + 5) _ (Enc.all_at (c := tqE) (j := 5) hx rfl) V o
  have g6 := ht (i * 8 + 6) _ (Enc.all_at (c := tqE) (j := 6) hx rfl) V o
  have g7 := ht (i * 8 + 7) _ (Enc.all_at (c := tqE) (j := 7) hx rfl) V o
  rw [← Nat.add_assoc] at g1 g2 g3 g4 g5 g6 g7
  exact ⟨g0, g1, g2, g3, g4, g5, g6, g7⟩
/-! ### the directory -/
structure Dn where
  name : ByteArray
  norm : ByteArray
  src : Int
  at' : Int
  kind : Int
  line : Int
def dnE : Enc Dn := ⟨6, fun x => [.string x.name, .string x.norm, .int .i64 x.src, .int .i64 x.at', .int .i64 x.kind, .int .i64 x.line], fun _ => rfl, fun x u hu => by
  simp only [List.mem_cons, List.not_mem_nil, or_false] at hu
  rcases hu with rfl | rfl | rfl | rfl | rfl | rfl <;> rfl⟩
def rowD (a i : Nat) (t : Tq) : Dn := ⟨t.name, nrm t.name, a, i, t.kind, t.line⟩
def rowsD (a : Nat) (T : List Tq) : Nat → List Dn
  | 0 => []
  | b + 1 => rowsD a T b ++ (T[b]?.map (rowD a b)).toList
def flatD (S : List (List Tq)) : Nat → List Dn
  | 0 => []
  | a + 1 => flatD S a ++ rowsD a (S.getD a []) (S.getD a []).length
def GoodD (l : List Dn) : Prop := (∀ d ∈ l, (normR d.name).2 = 0) ∧ (l.map Dn.norm).Nodup
theorem rowsD_succ {a b : Nat} {T : List Tq} {t : Tq} (h : T[b]? = some t) : rowsD a T (b + 1) = rowsD a T b ++ [rowD a b t] := by
  rw [rowsD, h]; rfl
theorem flatD_succ {S : List (List Tq)} {a : Nat} {T : List Tq} (h : S[a]? = some T) : flatD S (a + 1) = flatD S a ++ rowsD a T T.length := by
  have e : S.getD a [] = T := by simp [List.getD, h]
  rw [flatD, e]
theorem rowsD_length {a : Nat} {T : List Tq} : ∀ b, b ≤ T.length → (rowsD a T b).length = b
  | 0, _ => rfl
  | b + 1, h => by
    rw [rowsD_succ (List.getElem?_eq_getElem (by omega : b < T.length)), List.length_append, rowsD_length b (by omega)]; rfl
/-- how many topics the first sources have -/
def totD (S : List (List Tq)) : Nat → Nat
  | 0 => 0
  | a + 1 => totD S a + (S.getD a []).length
theorem totD_succ {S : List (List Tq)} {a : Nat} {T : List Tq} (h : S[a]? = some T) : totD S (a + 1) = totD S a + T.length := by
  have e : S.getD a [] = T := by simp [List.getD, h]
  rw [totD, e]
theorem flatD_length (S : List (List Tq)) : ∀ a, (flatD S a).length = totD S a
  | 0 => rfl
  | a + 1 => by rw [flatD, totD, List.length_append, flatD_length S a, rowsD_length _ (Nat.le_refl _)]
theorem totD_mono (S : List (List Tq)) {a b : Nat} (h : a ≤ b) : totD S a ≤ totD S b := by
  induction h with
  | refl => exact Nat.le_refl _
  | step _ ih => rw [totD]; omega
theorem totD_bound {S : List (List Tq)} {M : Nat} (h : ∀ T ∈ S, T.length ≤ M) : ∀ a, totD S a ≤ a * M
  | 0 => by simp [totD]
  | a + 1 => by
    have h1 := totD_bound h a
    have h2 : (S.getD a []).length ≤ M := by
      by_cases ha : a < S.length
      · have := h S[a] (List.getElem_mem ha)
        simpa [List.getD, List.getElem?_eq_getElem ha] using this
      · simp [List.getD, List.getElem?_eq_none (by omega : S.length ≤ a)]
    rw [totD, Nat.add_mul]; omega
theorem rowsD_pre (a : Nat) (T : List Tq) {b c : Nat} (h : b ≤ c) : rowsD a T b <+: rowsD a T c := by
  induction h with
  | refl => exact List.prefix_refl _
  | step _ ih => exact ih.trans ⟨_, rfl⟩
theorem flatD_pre (S : List (List Tq)) {b c : Nat} (h : b ≤ c) : flatD S b <+: flatD S c := by
  induction h with
  | refl => exact List.prefix_refl _
  | step _ ih => exact ih.trans ⟨_, rfl⟩
/-- the row of a topic -/
theorem flatD_at {S : List (List Tq)} {a b : Nat} {T : List Tq} {t : Tq} (ha : S[a]? = some T) (hb : T[b]? = some t) : (flatD S S.length)[totD S a + b]? = some (rowD a b t) ∧ (flatD S a ++ rowsD a T b ++ [rowD a b t]) <+: flatD S S.length := by
  have hal : a < S.length := (List.getElem?_eq_some_iff.1 ha).1
  have hbl : b < T.length := (List.getElem?_eq_some_iff.1 hb).1
  have p1 : flatD S a ++ rowsD a T b ++ [rowD a b t] <+: flatD S S.length := by
    have h1 : flatD S (a + 1) <+: flatD S S.length := flatD_pre S hal
    rw [flatD_succ ha] at h1
    refine List.IsPrefix.trans ?_ h1
    rw [List.append_assoc, ← rowsD_succ hb]
    exact List.prefix_append_right_inj _ |>.2 (rowsD_pre a T hbl)
  refine ⟨?_, p1⟩
  obtain ⟨r, hr⟩ := p1
  rw [← hr, List.getElem?_append_left (by simp [flatD_length, rowsD_length b (by omega : b ≤ T.length)])]
  rw [List.getElem?_append_right (by simp [flatD_length, rowsD_length b (by omega : b ≤ T.length)])]
  simp [flatD_length, rowsD_length b (by omega : b ≤ T.length)]
theorem GoodD.pre {l m : List Dn} (h : GoodD m) (p : l <+: m) : GoodD l := by
  obtain ⟨r, rfl⟩ := p
  refine ⟨fun d hd => h.1 d (List.mem_append_left _ hd), ?_⟩
  have := h.2
  rw [List.map_append] at this
  exact (List.nodup_append.1 this).1
theorem GoodD.nil : GoodD [] := ⟨fun d h => (by cases h), by simp⟩
theorem GoodD.snoc {l : List Dn} {d : Dn} (h : GoodD l) (h1 : (normR d.name).2 = 0) (h2 : d.norm ∉ l.map Dn.norm) : GoodD (l ++ [d]) := by
  refine ⟨fun x hx => ?_, ?_⟩
  · rcases List.mem_append.1 hx with hx | hx
    · exact h.1 x hx
    · rw [List.mem_singleton] at hx; rw [hx]; exact h1
  · rw [List.map_append, List.nodup_append]
    refine ⟨h.2, by simp, ?_⟩
    intro x hx y hy e
    simp at hy
    subst hy; subst e
    exact h2 hx
theorem GoodD.last {l : List Dn} {d : Dn} (h : GoodD (l ++ [d])) : (normR d.name).2 = 0 ∧ d.norm ∉ l.map Dn.norm := by
  refine ⟨h.1 d (by simp), fun hm => ?_⟩
  have := h.2
  rw [List.map_append, List.nodup_append] at this
  exact this.2.2 _ hm _ (by simp) rfl
open Classical in
/-- whether a Norm stands there -/
noncomputable def cntD (l : List Dn) (x : ByteArray) : Option Nat := if x ∈ l.map Dn.norm then some 1 else none
theorem cntD_nil : cntD [] = fun _ => none := by funext x; simp [cntD]
theorem cntD_snoc {l : List Dn} {d : Dn} : cntD (l ++ [d]) = fun q => if q = d.norm then some 1 else cntD l q := by
  funext x
  unfold cntD
  by_cases h : x = d.norm
  · simp [h]
  · simp [h]
theorem cntD_in {l : List Dn} {x : ByteArray} (h : x ∈ l.map Dn.norm) : cntD l x = some 1 := if_pos h
theorem cntD_out {l : List Dn} {x : ByteArray} (h : x ∉ l.map Dn.norm) : cntD l x = none := if_neg h
end Go.Proofs.YtpifkinlaicliaaGreatDoor
/-
  TOC, FAULTS: New, is, gather, All, Told at an error that New made.
-/




namespace Go.Proofs.YtpifkinlaicliaaGreatDoor
open Go.RowKit
attribute [local go_sem] Old.refl Old.alloc Old.drew Old.setCell OldW.old

/-- the cells of an error of ours -/
def errC (code src line col : Int) (word : ByteArray) : Array Value := #[.int .i64 1, .int .i64 code, .int .i64 src, .int .i64 line, .int .i64 col, .string word, .slice none 0 0]
def IsErr (w : World) (v : Value) (code src line col : Int) (word : ByteArray) : Prop :=
  ∃ g, v = .iface 122 (.pointer (some ⟨g, 0, none⟩)) ∧ ∀ j u, (errC code src line col word)[j]? = some u → ∀ W, Old w W → W.cell? ⟨g, j, none⟩ = some u
theorem IsErr.old {w W : World} {v : Value} {code src line col : Int} {word : ByteArray} (h : IsErr w v code src line col word) (o : Old w W) : IsErr W v code src line col word := by
  obtain ⟨g, e, h⟩ := h
  exact ⟨g, e, fun j u hu V oV => h j u hu V (o.trans oV)⟩
set_option maxHeartbeats 800000 in
theorem FNew_any (code src line col : Int) (word : ByteArray) (w : World) (hc : ¬ code = 0) :
    Calls Tryz.prog 41 #[.int .i64 code, .int .i64 src, .int .i64 line, .int .i64 col, .string word] w fun e w' => (∃ v, e = .returned v ∧ IsErr w' v code src line col word) ∧ Old w w' := by
  go_enter Tryz.func41, Tryz.ntmps41
  go_wp2_with fail
  go_ret
  refine ⟨⟨_, rfl, _, rfl, fun j u hu => later ?_⟩, (Old.refl w).alloc _⟩
  simp [go_sem]
  simpa [errC] using hu
set_option maxHeartbeats 800000 in
theorem is_any {w : World} {g : Nat} (h : ∀ W, Old w W → W.cell? ⟨g, 0, none⟩ = some (.int .i64 1)) :
    Calls Tryz.prog 93 #[.pointer (some ⟨g, 0, none⟩)] w fun e w' => e = .returned (.bool true) ∧ w = w' := by
  have h0 := h w (Old.refl w)
  go_enter Tryz.func93, Tryz.ntmps93
  go_wp2_with fail
  go_ret
  exact ⟨rfl, rfl⟩
/-- a fault's cells; no trail -/
structure Flt where
  code : Int
  src : Int
  line : Int
  col : Int
  word : ByteArray
def fltC (f : Flt) : List Value := [.int .i64 f.code, .int .i64 f.src, .int .i64 f.line, .int .i64 f.col, .string f.word, .slice none 0 0]
def encFlt : Enc Flt := ⟨6, fltC, fun _ => rfl, fun x u hu => by
  simp only [fltC, List.mem_cons, List.not_mem_nil, or_false] at hu
  rcases hu with rfl | rfl | rfl | rfl | rfl | rfl <;> rfl⟩
/-- 'x, ok := e.(*T)' at that very pointer type -/
theorem run_typeAssert_ptr {P : Program} {t e : TypeId} (ht : P.underlying t = some (.pointer e)) (v : Value) (xT : TypeId) (w : World) : (Instr.typeAssert (.iface t v) xT t true).run P w = .ok (.tuple #[v, .bool true]) w := by
  simp [Instr.typeAssert, run_underlying ht]
theorem infoFlt : (Tryz.prog.info? 54).map (fun i => (i.zero, i.size, i.bytes)) = some (some (.agg #[.int .i64 0, .int .i64 0, .int .i64 0, .int .i64 0, .string ⟨#[]⟩, .slice none 0 0]), 6, 72) := by kernel_rfl
theorem Recs.oneAt {α : Type} {c : Enc α} (w : World) (E : TypeId) (x : α) {b : Nat} (hb : w.heap.size = b) : Recs c (w.alloc (.cells (c.enc x).toArray E)) (.slice (some ⟨b, 0, none⟩) 1 1) [x] := by
  subst hb; exact Recs.one w E x
set_option maxRecDepth 100000 in
set_option maxHeartbeats 1600000 in
theorem gather_any {w : World} {v : Value} {f : Flt} (h : IsErr w v f.code f.src f.line f.col f.word) :
    Calls Tryz.prog 70 #[v, .agg #[.int .i64 0, .int .i64 0, .slice none 0 0], .slice none 0 0] w fun e w' => (∃ u, e = .returned u ∧ Recs encFlt w' u [f]) ∧ Old w w' := by
  obtain ⟨g, rfl, hc⟩ := h
  have h0 := hc 0 _ rfl
  have h1 := hc 1 _ rfl
  have h2 := hc 2 _ rfl
  have h3 := hc 3 _ rfl
  have h4 := hc 4 _ rfl
  have h5 := hc 5 _ rfl
  have h6 := hc 6 _ rfl
  have hTA := fun w => run_typeAssert_ptr Tryz.underlying122 (.pointer (some ⟨g, 0, none⟩)) 49 w
  have hC : errC f.code f.src f.line f.col f.word = #[.int .i64 1, .int .i64 f.code, .int .i64 f.src, .int .i64 f.line, .int .i64 f.col, .string f.word, .slice none 0 0] := rfl
  clear hc
  simp only [errC, List.getElem_toArray, List.getElem_cons_zero, List.getElem_cons_succ] at h0 h1 h2 h3 h4 h5 h6
  clear hC
  go_enter Tryz.func70, Tryz.ntmps70
  go_wp2_with (first
    | (go_at_call 93; refine (is_any (g := g) (fun V oV => h0 V (((Old.refl w).alloc _).trans oV))).mono ?_; rintro e w1 ⟨rfl, rfl⟩)
    | (at_builtin; (refine wpList_append_recs (w0 := w) (c := encFlt) rfl _ _ 89 rfl 54 Tryz.underlying89 _ infoFlt rfl (by decide) _ [] [f] rfl (OwnS.nil _ _ _ _) _ rfl (Recs.oneAt (c := encFlt) _ 54 f (by simp [go_sem])) (by simp) (by simp) ((((Old.refl w).alloc _).alloc _).alloc _) ?_); intro v' w3 hown3 ho3 _))
  go_ret
  exact ⟨⟨_, rfl, hown3.recs⟩, ho3⟩
theorem frozen_old {w W : World} (h : Old w W) {p : Addr} (hb : p.block < w.heap.size) : W.frozen? p = w.frozen? p := by
  have := h.block p.block hb
  unfold World.frozen?
  rw [this]
set_option maxRecDepth 100000 in
set_option maxHeartbeats 1600000 in
theorem Told_any {w : World} {v : Value} {f : Flt} (h : IsErr w v f.code f.src f.line f.col f.word) :
    Calls Tryz.prog 25 #[v] w fun e w' => e = .returned (.agg (fltC f).toArray) ∧ Old w w' := by
  have hg := fun W (o : Old w W) => gather_any (h.old o)
  obtain ⟨g, rfl, hc⟩ := h
  have hA : ∀ W, Old w W → Calls Tryz.prog 44 #[.iface 122 (.pointer (some ⟨g, 0, none⟩))] W fun e w' => (∃ u, e = .returned u ∧ Recs encFlt w' u [f]) ∧ Old W w' := by
    intro W hW
    have hg' := hg W hW
    clear hg hc
    go_enter Tryz.func44, Tryz.ntmps44
    go_wp2_with fail
    refine hg'.mono ?_
    rintro e w1 ⟨⟨u, rfl, hu⟩, ho⟩
    obtain ⟨a, cap, rfl, _, _⟩ := hu.form
    go_wp2_with fail
    go_ret
    exact ⟨⟨_, rfl, hu⟩, ho⟩
  clear hg hc
  go_enter Tryz.func25, Tryz.ntmps25
  go_wp2_with fail
  refine (hA _ ((Old.refl w).alloc _)).mono ?_
  rintro e w1 ⟨⟨u, rfl, hu⟩, ho⟩
  obtain ⟨a, cap, b, off, rfl, _, _, ha, ht⟩ := hu
  obtain rfl := ha (by simp)
  have t0 : ∀ W, Old w1 W → W.cell? ⟨b, off, none⟩ = some (.int .i64 f.code) := ht 0 _ rfl
  have t1 : ∀ W, Old w1 W → W.cell? ⟨b, off + 1, none⟩ = some (.int .i64 f.src) := ht 1 _ rfl
  have t2 : ∀ W, Old w1 W → W.cell? ⟨b, off + 2, none⟩ = some (.int .i64 f.line) := ht 2 _ rfl
  have t3 : ∀ W, Old w1 W → W.cell? ⟨b, off + 3, none⟩ = some (.int .i64 f.col) := ht 3 _ rfl
  have t4 : ∀ W, Old w1 W → W.cell? ⟨b, off + 4, none⟩ = some (.string f.word) := ht 4 _ rfl
  have t5 : ∀ W, Old w1 W → W.cell? ⟨b, off + 5, none⟩ = some (.slice none 0 0) := ht 5 _ rfl
  have k0 : w.heap.size < w1.heap.size := by have := ho.size; simp [go_sem] at this; omega
  have c0 := ho.cell (p := ⟨w.heap.size, 0, none⟩) (by simp [go_sem]; rfl)
  have c1 := ho.cell (p := ⟨w.heap.size, 1, none⟩) (by simp [go_sem]; rfl)
  have c2 := ho.cell (p := ⟨w.heap.size, 2, none⟩) (by simp [go_sem]; rfl)
  have c3 := ho.cell (p := ⟨w.heap.size, 3, none⟩) (by simp [go_sem]; rfl)
  have c4 := ho.cell (p := ⟨w.heap.size, 4, none⟩) (by simp [go_sem]; rfl)
  have c5 := ho.cell (p := ⟨w.heap.size, 5, none⟩) (by simp [go_sem]; rfl)
  have hf : ∀ j, w1.frozen? ⟨w.heap.size, j, none⟩ = false := fun j => by
    rw [frozen_old ho (by simp [go_sem])]
    simp [go_sem]
  clear ht ha hA
  go_wp2_with fail
  (try simp only [Exit.inBlock, Exit.then])
  refine bodyPost_ret (v := .agg (fltC f).toArray) (by simp [results, Tryz.results25, go_sem, c0, c1, c2, c3, c4, c5, fltC]) rfl ⟨rfl, ?_⟩
  have ho' := (((Old.refl w).alloc _).trans ho)
  exact (((((ho'.setCell (Nat.le_refl _) _).setCell (Nat.le_refl _) _).setCell (Nat.le_refl _) _).setCell (Nat.le_refl _) _).setCell (Nat.le_refl _) _).setCell (Nat.le_refl _) _
end Go.Proofs.YtpifkinlaicliaaGreatDoor
