/-
  SOURCES AND THEIR DIRECTORY, PLAIN: how sources lie, what the directory of them holds; over no program.
-/
import Derived.Test.YtpifkinlaicliaaGreatDoorZDeep
import Derived.Test.YtpifkinlaicliaaGreatDoorZMapsT
import Derived.Test.YtpifkinlaicliaaGreatDoorProg
import Derived.Stop.Asserts
import Derived.Handy
namespace Go.Proofs.YtpifkinlaicliaaGreatDoor
open Go.RowKit

/-- a topic -/
structure Tq where
  kind : Int
  name : ByteArray
  title : ByteArray
  n3 : Int
  s4 : Sl
  s5 : Sl
  s6 : Sl
  line : Int
def tqE : Enc Tq := ⟨8, fun x => [.int .i64 x.kind, .string x.name, .string x.title, .int .i64 x.n3, x.s4.v, x.s5.v, x.s6.v, .int .i64 x.line], fun _ => rfl, fun x u hu => by
  simp only [List.mem_cons, List.not_mem_nil, or_false] at hu
  rcases hu with rfl | rfl | rfl | rfl | rfl | rfl | rfl | rfl <;> rfl⟩
def sqE : Enc (Sl × Sl) := ⟨2, fun x => [x.1.v, x.2.v], fun _ => rfl, fun x u hu => by
  simp only [List.mem_cons, List.not_mem_nil, or_false] at hu
  rcases hu with rfl | rfl <;> rfl⟩
def SqR (w : World) (x : Sl × Sl) (T : List Tq) : Prop := Recs tqE w x.2.v T
def Sqs (w : World) (v : Value) (S : List (List Tq)) : Prop := Seqs sqE SqR w v S
theorem Sqs.old {w W : World} {v : Value} {S : List (List Tq)} (h : Sqs w v S) (o : Old w W) : Sqs W v S := Seqs.old (c := sqE) (R := SqR) (fun _ _ _ _ h o => Recs.old h o) h o
theorem Sqs.open {w : World} {a : Option Addr} {n cap : Nat} {S : List (List Tq)} (h : Sqs w (.slice a n cap) S) : ∃ b off, (0 < S.length → a = some ⟨b, off, none⟩) ∧ ∀ (i : Nat) (T : List Tq), S[i]? = some T →
    ∃ a0 n0 c0 ax cx, (∀ V, Old w V → V.cell? ⟨b, off + i * 2, none⟩ = some (.slice a0 n0 c0) ∧ V.cell? ⟨b, off + i * 2 + 1, none⟩ = some (.slice ax T.length cx)) ∧ Recs tqE w (.slice ax T.length cx) T ∧ T.length ≤ cx ∧ cx ≤ 9223372036854775807 := by
  obtain ⟨b, off, ha, h⟩ := Seqs.at h
  refine ⟨b, off, ha, fun i T hT => ?_⟩
  obtain ⟨⟨⟨a0, n0, c0⟩, ax, m, cx⟩, hR, hc⟩ := h i T hT
  obtain ⟨_, _, e, k1, k2⟩ := Recs.form hR
  obtain ⟨rfl, rfl, rfl⟩ := Value.slice.inj e
  exact ⟨a0, n0, c0, ax, cx, fun V o => ⟨hc 0 _ rfl V o, by have := hc 1 _ rfl V o; rw [← Nat.add_assoc] at this; exact this⟩, hR, k1, k2⟩
theorem Tqs.open {w : World} {a : Option Addr} {n cap : Nat} {T : List Tq} (h : Recs tqE w (.slice a n cap) T) : ∃ b off, (0 < T.length → a = some ⟨b, off, none⟩) ∧ ∀ (i : Nat) (x : Tq), T[i]? = some x →
    ∃ a4 n4 c4 a5 n5 c5 a6 n6 c6, ∀ V, Old w V → V.cell? ⟨b, off + i * 8, none⟩ = some (.int .i64 x.kind) ∧ V.cell? ⟨b, off + i * 8 + 1, none⟩ = some (.string x.name) ∧ V.cell? ⟨b, off + i * 8 + 2, none⟩ = some (.string x.title) ∧ V.cell? ⟨b, off + i * 8 + 3, none⟩ = some (.int .i64 x.n3) ∧
      V.cell? ⟨b, off + i * 8 + 4, none⟩ = some (.slice a4 n4 c4) ∧ V.cell? ⟨b, off + i * 8 + 5, none⟩ = some (.slice a5 n5 c5) ∧ V.cell? ⟨b, off + i * 8 + 6, none⟩ = some (.slice a6 n6 c6) ∧ V.cell? ⟨b, off + i * 8 + 7, none⟩ = some (.int .i64 x.line) := by
  obtain ⟨a', cap', b, off, e, _, _, h3, ht⟩ := h
  obtain ⟨rfl, _, rfl⟩ := Value.slice.inj e
  refine ⟨b, off, h3, fun i x hx => ⟨x.s4.1, x.s4.2.1, x.s4.2.2, x.s5.1, x.s5.2.1, x.s5.2.2, x.s6.1, x.s6.2.1, x.s6.2.2, fun V o => ?_⟩⟩
  have g0 := ht (i * 8 + 0) _ (Enc.all_at (c := tqE) (j := 0) hx rfl) V o
  have g1 := ht (i * 8 + 1) _ (Enc.all_at (c := tqE) (j := 1) hx rfl) V o
  have g2 := ht (i * 8 + 2) _ (Enc.all_at (c := tqE) (j := 2) hx rfl) V o
  have g3 := ht (i * 8 + 3) _ (Enc.all_at (c := tqE) (j := 3) hx rfl) V o
  have g4 := ht (i * 8 + 4) _ (Enc.all_at (c := tqE) (j := 4) hx rfl) V o
  have g5 := ht (i * 8 + 5) _ (Enc.all_at (c := tqE) (j := 5) hx rfl) V o
  have g6 := ht (i * 8 + 6) _ (Enc.all_at (c := tqE) (j := 6) hx rfl) V o
  have g7 := ht (i * 8 + 7) _ (Enc.all_at (c := tqE) (j := 7) hx rfl) V o
  rw [← Nat.add_assoc] at g1 g2 g3 g4 g5 g6 g7
  exact ⟨g0, g1, g2, g3, g4, g5, g6, g7⟩
/-! ### the directory -/
structure Dn where
  name : ByteArray
  norm : ByteArray
  src : Int
  at' : Int
  kind : Int
  line : Int
def dnE : Enc Dn := ⟨6, fun x => [.string x.name, .string x.norm, .int .i64 x.src, .int .i64 x.at', .int .i64 x.kind, .int .i64 x.line], fun _ => rfl, fun x u hu => by
  simp only [List.mem_cons, List.not_mem_nil, or_false] at hu
  rcases hu with rfl | rfl | rfl | rfl | rfl | rfl <;> rfl⟩
def rowD (a i : Nat) (t : Tq) : Dn := ⟨t.name, nrm t.name, a, i, t.kind, t.line⟩
def rowsD (a : Nat) (T : List Tq) : Nat → List Dn
  | 0 => []
  | b + 1 => rowsD a T b ++ (T[b]?.map (rowD a b)).toList
def flatD (S : List (List Tq)) : Nat → List Dn
  | 0 => []
  | a + 1 => flatD S a ++ rowsD a (S.getD a []) (S.getD a []).length
def GoodD (l : List Dn) : Prop := (∀ d ∈ l, (normR d.name).2 = 0) ∧ (l.map Dn.norm).Nodup
theorem rowsD_succ {a b : Nat} {T : List Tq} {t : Tq} (h : T[b]? = some t) : rowsD a T (b + 1) = rowsD a T b ++ [rowD a b t] := by
  rw [rowsD, h]; rfl
theorem flatD_succ {S : List (List Tq)} {a : Nat} {T : List Tq} (h : S[a]? = some T) : flatD S (a + 1) = flatD S a ++ rowsD a T T.length := by
  have e : S.getD a [] = T := by simp [List.getD, h]
  rw [flatD, e]
theorem rowsD_length {a : Nat} {T : List Tq} : ∀ b, b ≤ T.length → (rowsD a T b).length = b
  | 0, _ => rfl
  | b + 1, h => by
    rw [rowsD_succ (List.getElem?_eq_getElem (by omega : b < T.length)), List.length_append, rowsD_length b (by omega)]; rfl
/-- how many topics the first sources have -/
def totD (S : List (List Tq)) : Nat → Nat
  | 0 => 0
  | a + 1 => totD S a + (S.getD a []).length
theorem totD_succ {S : List (List Tq)} {a : Nat} {T : List Tq} (h : S[a]? = some T) : totD S (a + 1) = totD S a + T.length := by
  have e : S.getD a [] = T := by simp [List.getD, h]
  rw [totD, e]
theorem flatD_length (S : List (List Tq)) : ∀ a, (flatD S a).length = totD S a
  | 0 => rfl
  | a + 1 => by rw [flatD, totD, List.length_append, flatD_length S a, rowsD_length _ (Nat.le_refl _)]
theorem totD_mono (S : List (List Tq)) {a b : Nat} (h : a ≤ b) : totD S a ≤ totD S b := by
  induction h with
  | refl => exact Nat.le_refl _
  | step _ ih => rw [totD]; omega
theorem totD_bound {S : List (List Tq)} {M : Nat} (h : ∀ T ∈ S, T.length ≤ M) : ∀ a, totD S a ≤ a * M
  | 0 => by simp [totD]
  | a + 1 => by
    have h1 := totD_bound h a
    have h2 : (S.getD a []).length ≤ M := by
      by_cases ha : a < S.length
      · have := h S[a] (List.getElem_mem ha)
        simpa [List.getD, List.getElem?_eq_getElem ha] using this
      · simp [List.getD, List.getElem?_eq_none (by omega : S.length ≤ a)]
    rw [totD, Nat.add_mul]; omega
theorem rowsD_pre (a : Nat) (T : List Tq) {b c : Nat} (h : b ≤ c) : rowsD a T b <+: rowsD a T c := by
  induction h with
  | refl => exact List.prefix_refl _
  | step _ ih => exact ih.trans ⟨_, rfl⟩
theorem flatD_pre (S : List (List Tq)) {b c : Nat} (h : b ≤ c) : flatD S b <+: flatD S c := by
  induction h with
  | refl => exact List.prefix_refl _
  | step _ ih => exact ih.trans ⟨_, rfl⟩
/-- the row of a topic -/
theorem flatD_at {S : List (List Tq)} {a b : Nat} {T : List Tq} {t : Tq} (ha : S[a]? = some T) (hb : T[b]? = some t) : (flatD S S.length)[totD S a + b]? = some (rowD a b t) ∧ (flatD S a ++ rowsD a T b ++ [rowD a b t]) <+: flatD S S.length := by
  have hal : a < S.length := (List.getElem?_eq_some_iff.1 ha).1
  have hbl : b < T.length := (List.getElem?_eq_some_iff.1 hb).1
  have p1 : flatD S a ++ rowsD a T b ++ [rowD a b t] <+: flatD S S.length := by
    have h1 : flatD S (a + 1) <+: flatD S S.length := flatD_pre S hal
    rw [flatD_succ ha] at h1
    refine List.IsPrefix.trans ?_ h1
    rw [List.append_assoc, ← rowsD_succ hb]
    exact List.prefix_append_right_inj _ |>.2 (rowsD_pre a T hbl)
  refine ⟨?_, p1⟩
  obtain ⟨r, hr⟩ := p1
  rw [← hr, List.getElem?_append_left (by simp [flatD_length, rowsD_length b (by omega : b ≤ T.length)])]
  rw [List.getElem?_append_right (by simp [flatD_length, rowsD_length b (by omega : b ≤ T.length)])]
  simp [flatD_length, rowsD_length b (by omega : b ≤ T.length)]
theorem GoodD.pre {l m : List Dn} (h : GoodD m) (p : l <+: m) : GoodD l := by
  obtain ⟨r, rfl⟩ := p
  refine ⟨fun d hd => h.1 d (List.mem_append_left _ hd), ?_⟩
  have := h.2
  rw [List.map_append] at this
  exact (List.nodup_append.1 this).1
theorem GoodD.nil : GoodD [] := ⟨fun d h => (by cases h), by simp⟩
theorem GoodD.snoc {l : List Dn} {d : Dn} (h : GoodD l) (h1 : (normR d.name).2 = 0) (h2 : d.norm ∉ l.map Dn.norm) : GoodD (l ++ [d]) := by
  refine ⟨fun x hx => ?_, ?_⟩
  · rcases List.mem_append.1 hx with hx | hx
    · exact h.1 x hx
    · rw [List.mem_singleton] at hx; rw [hx]; exact h1
  · rw [List.map_append, List.nodup_append]
    refine ⟨h.2, by simp, ?_⟩
    intro x hx y hy e
    simp at hy
    subst hy; subst e
    exact h2 hx
theorem GoodD.last {l : List Dn} {d : Dn} (h : GoodD (l ++ [d])) : (normR d.name).2 = 0 ∧ d.norm ∉ l.map Dn.norm := by
  refine ⟨h.1 d (by simp), fun hm => ?_⟩
  have := h.2
  rw [List.map_append, List.nodup_append] at this
  exact this.2.2 _ hm _ (by simp) rfl
open Classical in
/-- whether a Norm stands there -/
noncomputable def cntD (l : List Dn) (x : ByteArray) : Option Nat := if x ∈ l.map Dn.norm then some 1 else none
theorem cntD_nil : cntD [] = fun _ => none := by funext x; simp [cntD]
theorem cntD_snoc {l : List Dn} {d : Dn} : cntD (l ++ [d]) = fun q => if q = d.norm then some 1 else cntD l q := by
  funext x
  unfold cntD
  by_cases h : x = d.norm
  · simp [h]
  · simp [h]
theorem cntD_in {l : List Dn} {x : ByteArray} (h : x ∈ l.map Dn.norm) : cntD l x = some 1 := if_pos h
theorem cntD_out {l : List Dn} {x : ByteArray} (h : x ∉ l.map Dn.norm) : cntD l x = none := if_neg h
end Go.Proofs.YtpifkinlaicliaaGreatDoor
/-
  TOC, FAULTS: New, is, gather, All, Told at an error that New made.
-/




namespace Go.Proofs.YtpifkinlaicliaaGreatDoor
open Go.RowKit
attribute [local go_sem] Old.refl Old.alloc Old.drew Old.setCell OldW.old

/-- the cells of an error of ours -/
def errC (code src line col : Int) (word : ByteArray) : Array Value := #[.int .i64 1, .int .i64 code, .int .i64 src, .int .i64 line, .int .i64 col, .string word, .slice none 0 0]
def IsErr (w : World) (v : Value) (code src line col : Int) (word : ByteArray) : Prop :=
  ∃ g, v = .iface 122 (.pointer (some ⟨g, 0, none⟩)) ∧ ∀ j u, (errC code src line col word)[j]? = some u → ∀ W, Old w W → W.cell? ⟨g, j, none⟩ = some u
theorem IsErr.old {w W : World} {v : Value} {code src line col : Int} {word : ByteArray} (h : IsErr w v code src line col word) (o : Old w W) : IsErr W v code src line col word := by
  obtain ⟨g, e, h⟩ := h
  exact ⟨g, e, fun j u hu V oV => h j u hu V (o.trans oV)⟩
set_option maxHeartbeats 800000 in
theorem FNew_any (code src line col : Int) (word : ByteArray) (w : World) (hc : ¬ code = 0) :
    Calls Tryz.prog 41 #[.int .i64 code, .int .i64 src, .int .i64 line, .int .i64 col, .string word] w fun e w' => (∃ v, e = .returned v ∧ IsErr w' v code src line col word) ∧ Old w w' := by
  go_enter Tryz.func41, Tryz.ntmps41
  go_wp2_with fail
  go_ret
  refine ⟨⟨_, rfl, _, rfl, fun j u hu => later ?_⟩, (Old.refl w).alloc _⟩
  simp [go_sem]
  simpa [errC] using hu
set_option maxHeartbeats 800000 in
theorem is_any {w : World} {g : Nat} (h : ∀ W, Old w W → W.cell? ⟨g, 0, none⟩ = some (.int .i64 1)) :
    Calls Tryz.prog 93 #[.pointer (some ⟨g, 0, none⟩)] w fun e w' => e = .returned (.bool true) ∧ w = w' := by
  have h0 := h w (Old.refl w)
  go_enter Tryz.func93, Tryz.ntmps93
  go_wp2_with fail
  go_ret
  exact ⟨rfl, rfl⟩
/-- a fault's cells; no trail -/
structure Flt where
  code : Int
  src : Int
  line : Int
  col : Int
  word : ByteArray
def fltC (f : Flt) : List Value := [.int .i64 f.code, .int .i64 f.src, .int .i64 f.line, .int .i64 f.col, .string f.word, .slice none 0 0]
def encFlt : Enc Flt := ⟨6, fltC, fun _ => rfl, fun x u hu => by
  simp only [fltC, List.mem_cons, List.not_mem_nil, or_false] at hu
  rcases hu with rfl | rfl | rfl | rfl | rfl | rfl <;> rfl⟩
/-- 'x, ok := e.(*T)' at that very pointer type -/
theorem run_typeAssert_ptr {P : Program} {t e : TypeId} (ht : P.underlying t = some (.pointer e)) (v : Value) (xT : TypeId) (w : World) : (Instr.typeAssert (.iface t v) xT t true).run P w = .ok (.tuple #[v, .bool true]) w := by
  simp [Instr.typeAssert, run_underlying ht]
theorem infoFlt : (Tryz.prog.info? 54).map (fun i => (i.zero, i.size, i.bytes)) = some (some (.agg #[.int .i64 0, .int .i64 0, .int .i64 0, .int .i64 0, .string ⟨#[]⟩, .slice none 0 0]), 6, 72) := by kernel_rfl
theorem Recs.oneAt {α : Type} {c : Enc α} (w : World) (E : TypeId) (x : α) {b : Nat} (hb : w.heap.size = b) : Recs c (w.alloc (.cells (c.enc x).toArray E)) (.slice (some ⟨b, 0, none⟩) 1 1) [x] := by
  subst hb; exact Recs.one w E x
set_option maxRecDepth 100000 in
set_option maxHeartbeats 1600000 in
theorem gather_any {w : World} {v : Value} {f : Flt} (h : IsErr w v f.code f.src f.line f.col f.word) :
    Calls Tryz.prog 70 #[v, .agg #[.int .i64 0, .int .i64 0, .slice none 0 0], .slice none 0 0] w fun e w' => (∃ u, e = .returned u ∧ Recs encFlt w' u [f]) ∧ Old w w' := by
  obtain ⟨g, rfl, hc⟩ := h
  have h0 := hc 0 _ rfl
  have h1 := hc 1 _ rfl
  have h2 := hc 2 _ rfl
  have h3 := hc 3 _ rfl
  have h4 := hc 4 _ rfl
  have h5 := hc 5 _ rfl
  have h6 := hc 6 _ rfl
  have hTA := fun w => run_typeAssert_ptr Tryz.underlying122 (.pointer (some ⟨g, 0, none⟩)) 49 w
  have hC : errC f.code f.src f.line f.col f.word = #[.int .i64 1, .int .i64 f.code, .int .i64 f.src, .int .i64 f.line, .int .i64 f.col, .string f.word, .slice none 0 0] := rfl
  clear hc
  simp only [errC, List.getElem_toArray, List.getElem_cons_zero, List.getElem_cons_succ] at h0 h1 h2 h3 h4 h5 h6
  clear hC
  go_enter Tryz.func70, Tryz.ntmps70
  go_wp2_with (first
    | (go_at_call 93; refine (is_any (g := g) (fun V oV => h0 V (((Old.refl w).alloc _).trans oV))).mono ?_; rintro e w1 ⟨rfl, rfl⟩)
    | (at_builtin; (refine wpList_append_recs (w0 := w) (c := encFlt) rfl _ _ 89 rfl 54 Tryz.underlying89 _ infoFlt rfl (by decide) _ [] [f] rfl (OwnS.nil _ _ _ _) _ rfl (Recs.oneAt (c := encFlt) _ 54 f (by simp [go_sem])) (by simp) (by simp) ((((Old.refl w).alloc _).alloc _).alloc _) ?_); intro v' w3 hown3 ho3 _))
  go_ret
  exact ⟨⟨_, rfl, hown3.recs⟩, ho3⟩
theorem frozen_old {w W : World} (h : Old w W) {p : Addr} (hb : p.block < w.heap.size) : W.frozen? p = w.frozen? p := by
  have := h.block p.block hb
  unfold World.frozen?
  rw [this]
set_option maxRecDepth 100000 in
set_option maxHeartbeats 1600000 in
theorem Told_any {w : World} {v : Value} {f : Flt} (h : IsErr w v f.code f.src f.line f.col f.word) :
    Calls Tryz.prog 25 #[v] w fun e w' => e = .returned (.agg (fltC f).toArray) ∧ Old w w' := by
  have hg := fun W (o : Old w W) => gather_any (h.old o)
  obtain ⟨g, rfl, hc⟩ := h
  have hA : ∀ W, Old w W → Calls Tryz.prog 44 #[.iface 122 (.pointer (some ⟨g, 0, none⟩))] W fun e w' => (∃ u, e = .returned u ∧ Recs encFlt w' u [f]) ∧ Old W w' := by
    intro W hW
    have hg' := hg W hW
    clear hg hc
    go_enter Tryz.func44, Tryz.ntmps44
    go_wp2_with fail
    refine hg'.mono ?_
    rintro e w1 ⟨⟨u, rfl, hu⟩, ho⟩
    obtain ⟨a, cap, rfl, _, _⟩ := hu.form
    go_wp2_with fail
    go_ret
    exact ⟨⟨_, rfl, hu⟩, ho⟩
  clear hg hc
  go_enter Tryz.func25, Tryz.ntmps25
  go_wp2_with fail
  refine (hA _ ((Old.refl w).alloc _)).mono ?_
  rintro e w1 ⟨⟨u, rfl, hu⟩, ho⟩
  obtain ⟨a, cap, b, off, rfl, _, _, ha, ht⟩ := hu
  obtain rfl := ha (by simp)
  have t0 : ∀ W, Old w1 W → W.cell? ⟨b, off, none⟩ = some (.int .i64 f.code) := ht 0 _ rfl
  have t1 : ∀ W, Old w1 W → W.cell? ⟨b, off + 1, none⟩ = some (.int .i64 f.src) := ht 1 _ rfl
  have t2 : ∀ W, Old w1 W → W.cell? ⟨b, off + 2, none⟩ = some (.int .i64 f.line) := ht 2 _ rfl
  have t3 : ∀ W, Old w1 W → W.cell? ⟨b, off + 3, none⟩ = some (.int .i64 f.col) := ht 3 _ rfl
  have t4 : ∀ W, Old w1 W → W.cell? ⟨b, off + 4, none⟩ = some (.string f.word) := ht 4 _ rfl
  have t5 : ∀ W, Old w1 W → W.cell? ⟨b, off + 5, none⟩ = some (.slice none 0 0) := ht 5 _ rfl
  have k0 : w.heap.size < w1.heap.size := by have := ho.size; simp [go_sem] at this; omega
  have c0 := ho.cell (p := ⟨w.heap.size, 0, none⟩) (by simp [go_sem]; rfl)
  have c1 := ho.cell (p := ⟨w.heap.size, 1, none⟩) (by simp [go_sem]; rfl)
  have c2 := ho.cell (p := ⟨w.heap.size, 2, none⟩) (by simp [go_sem]; rfl)
  have c3 := ho.cell (p := ⟨w.heap.size, 3, none⟩) (by simp [go_sem]; rfl)
  have c4 := ho.cell (p := ⟨w.heap.size, 4, none⟩) (by simp [go_sem]; rfl)
  have c5 := ho.cell (p := ⟨w.heap.size, 5, none⟩) (by simp [go_sem]; rfl)
  have hf : ∀ j, w1.frozen? ⟨w.heap.size, j, none⟩ = false := fun j => by
    rw [frozen_old ho (by simp [go_sem])]
    simp [go_sem]
  clear ht ha hA
  go_wp2_with fail
  (try simp only [Exit.inBlock, Exit.then])
  refine bodyPost_ret (v := .agg (fltC f).toArray) (by simp [results, Tryz.results25, go_sem, c0, c1, c2, c3, c4, c5, fltC]) rfl ⟨rfl, ?_⟩
  have ho' := (((Old.refl w).alloc _).trans ho)
  exact (((((ho'.setCell (Nat.le_refl _) _).setCell (Nat.le_refl _) _).setCell (Nat.le_refl _) _).setCell (Nat.le_refl _) _).setCell (Nat.le_refl _) _).setCell (Nat.le_refl _) _
end Go.Proofs.YtpifkinlaicliaaGreatDoor
/-
  A TABLE OF NAMES, AS IT LIES: slices of texts, the table's three cells; a handle that may be nil.
-/




namespace Go.Proofs.YtpifkinlaicliaaGreatDoor
open Go.RowKit Go.Maps
attribute [local go_sem] Old.refl Old.alloc Old.drew Old.setCell OldW.old

def txE : Enc ByteArray := ⟨1, fun x => [.string x], fun _ => rfl, fun x u hu => by
  simp only [List.mem_cons, List.not_mem_nil, or_false] at hu
  subst hu; rfl⟩
theorem txE_all (l : List ByteArray) : txE.all l = l.map Value.string := by
  induction l with
  | nil => rfl
  | cons x t ih => rw [Enc.all_cons, ih]; rfl
/-- v: a slice of the texts L, in w and later -/
def Txts (w : World) (v : Value) (L : List ByteArray) : Prop :=
  ∃ a cap b off, v = .slice a L.length cap ∧ L.length ≤ cap ∧ cap ≤ 9223372036854775807 ∧ (0 < L.length → a = some ⟨b, off, none⟩) ∧
    ∀ i, i < L.length → ∀ W, Old w W → W.cell? ⟨b, off + i, none⟩ = some (.string (L.getD i ⟨#[]⟩))
theorem Txts.old {w w' : World} {v : Value} {l : List ByteArray} (h : Txts w v l) (o : Old w w') : Txts w' v l := by
  obtain ⟨a, cap, b, off, e, h1, h2, h3, h4⟩ := h
  exact ⟨a, cap, b, off, e, h1, h2, h3, fun i hi W hW => h4 i hi W (o.trans hW)⟩
theorem Txts.nil (w : World) : Txts w (.slice none 0 0) [] := ⟨none, 0, 0, 0, rfl, by simp, by simp, by simp, by simp⟩
theorem Txts.form {w : World} {v : Value} {l : List ByteArray} (h : Txts w v l) : ∃ a cap, v = .slice a l.length cap ∧ l.length ≤ cap ∧ cap ≤ 9223372036854775807 := by
  obtain ⟨a, cap, b, off, e, h1, h2, _⟩ := h; exact ⟨a, cap, e, h1, h2⟩
theorem Txts.of_recs {w : World} {v : Value} {l : List ByteArray} (h : Recs txE w v l) : Txts w v l := by
  obtain ⟨a, cap, b, off, e, h1, h2, h3, h4⟩ := h
  refine ⟨a, cap, b, off, e, h1, h2, h3, fun i hi W hW => ?_⟩
  refine h4 i _ ?_ W hW
  rw [txE_all, List.getElem?_map]
  simp [List.getD, hi]
theorem Txts.recs {w : World} {v : Value} {l : List ByteArray} (h : Txts w v l) : Recs txE w v l := by
  obtain ⟨a, cap, b, off, e, h1, h2, h3, h4⟩ := h
  refine ⟨a, cap, b, off, e, h1, h2, h3, fun j u hu W hW => ?_⟩
  rw [txE_all, List.getElem?_map] at hu
  have hj : j < l.length := by
    rcases Nat.lt_or_ge j l.length with c | c
    · exact c
    · rw [List.getElem?_eq_none c] at hu; simp at hu
  rw [h4 j hj W hW, ← hu]
  simp [List.getD, hj]
/-- the slice's cells, from a world on -/
theorem Txts.at' {w : World} {v : Value} {l : List ByteArray} (h : Txts w v l) {i : Nat} (hi : i < l.length) : ∃ b off cap, v = .slice (some ⟨b, off, none⟩) l.length cap ∧ l.length ≤ cap ∧ cap ≤ 9223372036854775807 ∧ ∀ W, Old w W → W.cell? ⟨b, off + i, none⟩ = some (.string (nmAt l i)) := by
  obtain ⟨a, cap, b, off, rfl, h1, h2, h3, h4⟩ := h
  obtain rfl := h3 (by omega)
  exact ⟨b, off, cap, rfl, h1, h2, h4 i hi⟩

/-- block c: a table of the names l -/
structure Tab (w : World) (c : Nat) (l : List ByteArray) : Prop where
  names : ∃ v, (∀ W, Old w W → W.cell? ⟨c, 0, none⟩ = some v) ∧ Txts w v l
  norms : ∃ v, (∀ W, Old w W → W.cell? ⟨c, 1, none⟩ = some v) ∧ Txts w v (l.map nrm)
  found : (l = [] ∧ ∀ W, Old w W → W.cell? ⟨c, 2, none⟩ = some (.map none)) ∨
    ∃ b n, (∀ W, Old w W → W.cell? ⟨c, 2, none⟩ = some (.map (some b))) ∧ MapTO Tryz.prog 9 3 w b n (findN (l.map nrm))
theorem Tab.old {w W : World} {c : Nat} {l : List ByteArray} (h : Tab w c l) (o : Old w W) : Tab W c l := by
  obtain ⟨⟨v, h1, h2⟩, ⟨u, k1, k2⟩, h3⟩ := h
  refine ⟨⟨v, fun V oV => h1 V (o.trans oV), h2.old o⟩, ⟨u, fun V oV => k1 V (o.trans oV), k2.old o⟩, ?_⟩
  rcases h3 with ⟨e, h⟩ | ⟨b, n, h, m⟩
  · exact .inl ⟨e, fun V oV => h V (o.trans oV)⟩
  · exact .inr ⟨b, n, fun V oV => h V (o.trans oV), m.old o⟩
/-- a handle: nil, or a table -/
def Hdl (w : World) (p : Option Addr) (l : List ByteArray) : Prop := (p = none ∧ l = []) ∨ ∃ c, p = some ⟨c, 0, none⟩ ∧ Tab w c l
theorem Hdl.old {w W : World} {p : Option Addr} {l : List ByteArray} (h : Hdl w p l) (o : Old w W) : Hdl W p l := by
  rcases h with h | ⟨c, e, h⟩
  · exact .inl h
  · exact .inr ⟨c, e, h.old o⟩

/-! ### Len, Name -/
theorem Len_any (p : Option Addr) (l : List ByteArray) (w : World) (h : Hdl w p l) :
    Calls Tryz.prog 9 #[.pointer p] w fun e w' => e = .returned (.int .i64 l.length) ∧ Old w w' := by
  rcases h with ⟨rfl, rfl⟩ | ⟨c, rfl, ⟨v, h1, h2⟩, _, _⟩
  · go_enter Tryz.func9, Tryz.ntmps9
    go_wp2_with fail
    go_ret
    exact ⟨rfl, Old.refl _⟩
  · obtain ⟨a, cap, rfl, hc1, hc2⟩ := h2.form
    clear h2
    go_enter Tryz.func9, Tryz.ntmps9
    go_wp2_with fail
    go_ret
    exact ⟨rfl, Old.refl _⟩
def nameR (l : List ByteArray) (i : Int) : ByteArray × Int := if 0 ≤ i ∧ i < l.length then (nmAt l i.toNat, 0) else (noS, 1)
theorem Name_any (p : Option Addr) (l : List ByteArray) (i : Int) (w : World) (h : Hdl w p l) (hi0 : -9223372036854775808 ≤ i) (hi1 : i ≤ 9223372036854775807) :
    Calls Tryz.prog 8 #[.pointer p, .int .i64 i] w fun e w' => e = .returned (.tuple #[.string (nameR l i).1, .int .i64 (nameR l i).2]) ∧ Old w w' := by
  have HL := Lib.hid (fun V (o : Old w V) => Len_any p l V (h.old o))
  by_cases h0 : i < 0
  · have Hr : Hid (nameR l i = (noS, 1)) := Lib.hid (if_neg (by omega))
    go_enter Tryz.func8, Tryz.ntmps8
    go_wp2_with fail
    go_ret2
    exact ⟨ret_two (by rw [Hr.out]; rfl) (by rw [Hr.out]; rfl), Old.refl _⟩
  · by_cases h1 : i < l.length
    · have Hr : Hid (nameR l i = (nmAt l i.toNat, 0)) := Lib.hid (if_pos (by omega))
      obtain ⟨k, rfl⟩ : ∃ k : Nat, i = k := ⟨i.toNat, by omega⟩
      have hk : k < l.length := by omega
      have hg : ¬ (l.length : Int) ≤ k := by omega
      rcases h with ⟨rfl, rfl⟩ | ⟨c, rfl, ⟨v, c0, h2⟩, _, _⟩
      · simp at hk
      · obtain ⟨b, off, cap, rfl, hc1, hc2, cN⟩ := h2.at' hk
        have e : Int.toNat (k : Int) = k := Int.toNat_natCast k
        rw [e] at Hr
        clear h2
        generalize nmAt l k = s at *
        go_enter Tryz.func8, Tryz.ntmps8
        go_wp2_with (go_at_call 9; refine (HL.out _ (Old.refl _)).mono ?_; rintro e w1 ⟨rfl, o1⟩)
        have c0' := c0 w1 o1
        have cN' := cN w1 o1
        go_wp2_with fail
        go_ret2
        exact ⟨ret_two (by rw [Hr.out]; rfl) (by rw [Hr.out]; rfl), o1⟩
    · have Hr : Hid (nameR l i = (noS, 1)) := Lib.hid (if_neg (by omega))
      have hg : (l.length : Int) ≤ i := by omega
      clear h
      go_enter Tryz.func8, Tryz.ntmps8
      go_wp2_with (go_at_call 9; refine (HL.out _ (Old.refl _)).mono ?_; rintro e w1 ⟨rfl, o1⟩)
      go_wp2_with fail
      go_ret2
      exact ⟨ret_two (by rw [Hr.out]; rfl) (by rw [Hr.out]; rfl), o1⟩

/-! ### Find -/
theorem optN_none : optN none = 0 := rfl
theorem findR_nil (s : ByteArray) : findR [] s = none := by
  unfold findR
  split <;> rfl
theorem zeroInt : ∀ w, (zeroValue 3).run Tryz.prog w = .ok (.int .i64 0) w := fun w => by kernel_rfl
theorem run_check_str (n : Nat) (em : Bool) (s : ByteArray) (w : World) : (Instr.checkKey em (n + 1) 9 (.string s)).run Tryz.prog w = .ok () w := by
  rw [Instr.checkKey]
  simp [run_underlying Tryz.underlying9]
theorem run_lookup_nil (s : ByteArray) (w : World) : (Instr.lookup 62 (.map none) (.string s) true).run Tryz.prog w = .ok (.tuple #[.int .i64 0, .bool false]) w := by
  have hc := fun em => run_check_str 9999 em s w
  simp only [Nat.reduceAdd] at hc
  unfold Instr.lookup
  simp [run_underlying Tryz.underlying62, run_underlying Tryz.underlying9, Instr.findKey, Instr.findNow, hc]
set_option maxRecDepth 100000 in
set_option maxHeartbeats 800000 in
theorem Find_any (p : Option Addr) (l : List ByteArray) (s : ByteArray) (w : World) (hT : Tabs w) (h : Hdl w p l) :
    Calls Tryz.prog 13 #[.pointer p, .string s] w fun e w' => e = .returned (.tuple #[.int .i64 (optN (findR l s)), .bool (findR l s).isSome]) ∧ Old w w' := by
  have HN := Lib.hid (Norm_any s w hT)
  have hs := normR_size s
  by_cases h0 : (normR s).2 = 0
  · have hr : findR l s = findN (l.map nrm) (nrm s) := if_pos h0
    rw [h0] at HN
    have hs' : (nrm s).size ≤ 9223372036854775807 := by unfold nrm; omega
    rw [show (normR s).1 = nrm s from rfl] at HN
    clear hs h0
    rcases h with ⟨rfl, rfl⟩ | ⟨c, rfl, h⟩
    · have Hr : Hid (findR [] s = none) := Lib.hid (findR_nil s)
      clear hr
      generalize nrm s = n at *
      go_enter Tryz.func13, Tryz.ntmps13
      go_wp2_with (go_at_call 20; refine HN.out.mono ?_; rintro e w1 ⟨rfl, o1⟩)
      go_wp2_with fail
      go_ret2
      exact ⟨ret_two (by rw [Hr.out]; rfl) (by rw [Hr.out]; rfl), o1⟩
    · rcases h.found with ⟨rfl, c2⟩ | ⟨b, n, c2, hm⟩
      · have Hr : Hid (findR [] s = none) := Lib.hid (findR_nil s)
        have hnil := run_lookup_nil
        clear hr h
        generalize nrm s = n at *
        go_enter Tryz.func13, Tryz.ntmps13
        go_wp2_with (go_at_call 20; refine HN.out.mono ?_; rintro e w1 ⟨rfl, o1⟩)
        go_ret2
        exact ⟨ret_two (by rw [Hr.out]; rfl) (by rw [Hr.out]; rfl), o1⟩
      · have Hr := Lib.hid hr
        have Hm := Lib.hid hm
        clear hr h hm
        generalize hz : findN (l.map nrm) (nrm s) = z at *
        have Hz := Lib.hid hz
        clear hz
        generalize nrm s = q at *
        go_enter Tryz.func13, Tryz.ntmps13
        go_wp2_with (first
          | (go_at_call 20; refine HN.out.mono ?_; rintro e w1 ⟨rfl, o1⟩)
          | (refine wpList_lookup_mto_ok rfl _ _ _ rfl _ _ Tryz.underlying9 Tryz.underlying62 Tryz.underlying3 zeroInt b n _ rfl (Hm.out.old o1) q rfl hs' z Hz.out ?_))
        go_ret2
        exact ⟨ret_two (by rw [Hr.out]; rfl) (by rw [Hr.out]; rfl), o1⟩
  · have Hr : Hid (findR l s = none) := Lib.hid (if_neg h0)
    have hne : ((normR s).2 != 0) = true := by simpa using h0
    clear hs h0 h
    generalize (normR s).1 = n at *
    generalize (normR s).2 = e0 at *
    go_enter Tryz.func13, Tryz.ntmps13
    go_wp2_with (go_at_call 20; refine HN.out.mono ?_; rintro e w1 ⟨rfl, o1⟩)
    go_wp2_with fail
    go_ret2
    exact ⟨ret_two (by rw [Hr.out]; rfl) (by rw [Hr.out]; rfl), o1⟩
end Go.Proofs.YtpifkinlaicliaaGreatDoor
