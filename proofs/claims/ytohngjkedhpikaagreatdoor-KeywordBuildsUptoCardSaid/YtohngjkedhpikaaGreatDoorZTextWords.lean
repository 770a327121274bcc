/-
  RANGE OVER A FUNCTION, over no program: what a round keeps ('KeptBut'), drawn regions inside a round.
-/
import Derived.Test.YtohngjkedhpikaaGreatDoorZBase
import Derived.RangeFuncFrom
import Derived.RangeFuncBound
import Derived.RangeFuncCalls
import Derived.RangeFuncLeaves
import Derived.RangeFuncBox
import Derived.OwnWalkIn
import Derived.TacticsInMore
import Derived.LoopNIn
import Derived.LoopIn
import Derived.Shelf.Abstract
import Derived.Shelf.RegionOpen
import Derived.BigFrameIn
import Derived.Test.YtohngjkedhpikaaGreatDoorZTextCodesC
import Derived.StillTailTactics
import Derived.Deep.RegionHeld3
import Derived.Deep.AppendLies
import Derived.Deep.RegionLaw
namespace Go.Proofs.YtohngjkedhpikaaGreatDoor
open Go.RowKit

/-- all blocks below n but block b lie as they lay -/
structure KeptBut (n b : Nat) (w w' : World) : Prop where
  os : w'.os = w.os
  tape : w'.tape = w.tape
  output : w'.output = w.output
  size : w.heap.size ≤ w'.heap.size
  block : ∀ k, k < n → k ≠ b → w'.heap[k]? = w.heap[k]?
theorem KeptBut.refl (n b : Nat) (w : World) : KeptBut n b w w := ⟨rfl, rfl, rfl, Nat.le_refl _, fun _ _ _ => rfl⟩
theorem KeptBut.trans {n b : Nat} {x y z : World} (h : KeptBut n b x y) (k : KeptBut n b y z) : KeptBut n b x z :=
  ⟨k.os.trans h.os, k.tape.trans h.tape, k.output.trans h.output, Nat.le_trans h.size k.size, fun i hi hb => (k.block i hi hb).trans (h.block i hi hb)⟩
theorem KeptBut.old {n b : Nat} {w0 w w' : World} (h : KeptBut n b w w') (ho : Old w0 w) (hn : w0.heap.size ≤ n) (hb : w0.heap.size ≤ b) : Old w0 w' :=
  Below.trans ho (show Below w0.heap.size w w' from ⟨h.os, h.tape, h.output, h.size, fun k hk => h.block k (by omega) (by omega)⟩)
theorem KeptBut.cell {n b : Nat} {w w' : World} (h : KeptBut n b w w') {p : Addr} (hp : p.block < n) (hb : p.block ≠ b) : w'.cell? p = w.cell? p := World.cell?_of_block (h.block _ hp hb)
theorem KeptBut.grown {n b : Nat} {w w' : World} {row : Option Nat} (hg : w.grownBy w' row) (hn : n ≤ w.heap.size) (hr : ∀ k, row = some k → n ≤ k ∨ k = b) : KeptBut n b w w' :=
  ⟨hg.os, hg.tape, hg.output, hg.size, fun k hk hb => hg.block k (by omega) (fun e => by have := hr k e.symm; omega)⟩
theorem KeptBut.of_old {n b : Nat} {w w' : World} (h : Old w w') (hn : n ≤ w.heap.size) : KeptBut n b w w' :=
  ⟨h.os, h.tape, h.output, h.size, fun k hk _ => h.block k (by omega)⟩
theorem KeptBut.setCell {n b : Nat} (w : World) (o : Nat) (v : Value) : KeptBut n b w (w.setCell ⟨b, o, none⟩ v) :=
  ⟨rfl, rfl, rfl, by simp [World.setCell], fun k _ hb => Below.heap_setCell _ _ _ _ hb⟩
theorem keptK_b {n b : Nat} {w : World} (hn : n ≤ w.heap.size) (W : World) (l : Nat) (o o' : Obj) (hl : w.heap.size ≤ l) (h : W.heap[l]? = some o) (_ : o.isCells = false) (_ : o.isWalk = false) : KeptBut n b W (W.putObj l o') :=
  KeptBut.grown (grownBy_putObj' W l o') (by have := (Array.getElem?_eq_some_iff.1 h).1; omega) (fun k e => by cases e; exact .inl (by omega))
theorem ownFrom_kept {β : Type} {n b B : Nat} {w0 : World} (hn : n ≤ w0.heap.size) (hB : n ≤ B) : OwnFrom B (fun (_ : β) W => KeptBut n b w0 W) :=
  fun _ _ _ _ hs hg hr => hs.trans (KeptBut.grown hg (Nat.le_trans hn hs.size) (fun k e => .inl (Nat.le_trans hB (hr k e).1)))

section
variable {P : Program} {ops : Array Oper} {C : World → Prop} {l n : Nat}
theorem Oper.wpIn_of_quiet {o : Oper} {a : Act} {K : Act → Prop} {K' : Act → World → Prop} {Q' : Exit → Act → World → Prop} {w : World} (hnd : ∀ c, o.op ≠ .defer c) (hw : C w) (h : ∀ a w', C w' → K a → K' a w') (hh : o.quiet P a C K) :
    o.wpIn (Fence.wide.inRound l) n P a w K' Q' := by
  obtain ⟨v, h1, h2⟩ := hh
  have h3 := h1 w hw
  unfold Oper.quietAt at h3
  refine ⟨fun _ _ => trivial, ?_⟩
  rw [show (Fence.wide.inRound l).round = some l from rfl, Oper.semAt_some l _ _ hnd]
  generalize (execOp a.eval o).run P w = r at *
  cases r with
  | ok nx w' =>
    cases nx <;> simp only [Oper.quietUpon] at h3 <;> simp only [Oper.uponIn]
    case value u =>
      obtain ⟨e1, e2⟩ := h3
      rw [e1, e2]
      exact h _ _ hw h2
    case skip =>
      obtain ⟨e1, e2⟩ := h3
      rw [e1, ← e2]
      exact h _ _ hw h2
    case enter f args =>
      obtain ⟨e1, hc⟩ := h3
      rw [e1]
      refine ⟨fun hd => by simp [Fence.wide] at hd, CallsIn.inRound l (callsIn_wide.2 (hc.mono fun e w'' ⟨he, hw''⟩ => ?_))⟩
      subst he
      exact h _ _ hw'' h2
  | halt x w' => simp only [Oper.quietUpon] at h3
theorem wpOpIn_of_qOp {i : Nat} {a : Act} {K : Act → Prop} {K' : Act → World → Prop} {Q' : Exit → Act → World → Prop} {w : World} (hnd : ∀ (j : Nat) (o : Oper) c, ops[j]? = some o → o.op ≠ .defer c) (hC : C w) (h : ∀ a w', C w' → K a → K' a w') (hh : qOp P ops C i K a) :
    wpOpIn (Fence.wide.inRound l) n P ops Q' i K' a w := by
  unfold qOp at hh
  unfold wpOpIn
  split
  · rename_i ho; simp only [ho] at hh; exact h _ _ hC hh
  · rename_i o ho
    simp only [ho] at hh
    split
    · rename_i hw; simp only [hw, if_true] at hh; exact Oper.wpIn_of_quiet (fun c => hnd i o c ho) hC h hh
    · rename_i hw; simp only [hw] at hh; exact ⟨fun _ _ => trivial, h _ _ hC hh⟩
theorem wpAnyIn_of_quiet {md : Region.Mode} {Q : Act → Prop} {Q' : Exit → Act → World → Prop} (hnd : ∀ (j : Nat) (o : Oper) c, ops[j]? = some o → o.op ≠ .defer c) (hQ : ∀ a w, C w → Q a → Q' .normal a w) : ∀ (fuel : Nat) (listed : Array Bool) (a : Act) (w : World), C w →
    wpAnyQ P md ops C Q fuel listed a → wpAnyIn (Fence.wide.inRound l) n P md ops Q' fuel listed a w
  | 0, _, _, _, hw, h => ⟨h.1, hQ _ _ hw h.2⟩
  | fuel + 1, _, _, _, hw, h => ⟨fun h0 => hQ _ _ hw (h.1 h0), fun i hi => wpOpIn_of_qOp hnd hw (fun a' w' hw' => wpAnyIn_of_quiet hnd hQ fuel _ a' w' hw') (h.2 i hi)⟩
def noDefer (l : List Oper) : Bool := l.all fun o => match o.op with | .defer _ => false | _ => true
/-- a drawn region inside a round: one walk, in the text's order -/
theorem wpIn_region_old {id : Nat} {Q : Exit → Act → World → Prop} {a : Act} {w0 w : World} {os : List Oper} (h0 : Old w0 w) (hm : P.follows .mixedOrders = true) (hB : Region.lexB .any os.toArray = true) (hnd : noDefer os = true)
    (h : wpQuiet P os.toArray (fun w' => ∃ W : OldW w0, w' = W.w') (fun a' => ∀ W : OldW w0, Q .normal a' W.w') os a) : (Code.region id os.toArray true).wpIn (Fence.wide.inRound l) n P Q a w := by
  simp only [Region.lexB, Bool.and_eq_true] at hB
  have hnd' : ∀ (j : Nat) (o : Oper) c, os.toArray[j]? = some o → o.op ≠ .defer c := by
    intro j o c ho e
    have hmem : o ∈ os := by
      rw [List.getElem?_toArray] at ho
      exact List.mem_of_getElem? ho
    have := List.all_eq_true.1 hnd o hmem
    rw [e] at this
    cases this
  refine wpIn_region_any hm (wpAnyIn_of_quiet (C := fun w' => ∃ W : OldW w0, w' = W.w') (Q := fun a' => ∀ W : OldW w0, Q .normal a' W.w') hnd' (fun _ w' ⟨W, e⟩ h => e ▸ h W) _ _ _ _ ⟨⟨_, h0.drew⟩, rfl⟩ ?_)
  have := wpAnyQ_lex (P := P) (ops := os.toArray) (C := fun w' => ∃ W : OldW w0, w' = W.w') (md := .any) hB.1 os 0 (Array.replicate os.length false) a (by simp) (by simpa using hB.2) h
  simpa using this
end

theorem keepsOthers_old {w w' : World} (h : Old w w') : KeepsOthers w w' := ⟨h.size, fun k _ hk _ => (h.block k (Array.getElem?_eq_some_iff.1 hk).1).trans hk⟩
theorem keepsOthers_row {w w' : World} {base e size : Nat} {v : Value} {k : Nat} {xs : List Value} (h : w.ownsRow base e size v k xs) (hg : w.grownBy w' v.ownBlock) : KeepsOthers w w' :=
  KeepsOthers.of_grownBy hg fun j o e ho => by
    rcases h.2 with ⟨rfl, _⟩ | ⟨g, cap, cur, rfl, _, hgb, _⟩
    · cases e
    · simp [Value.ownBlock] at e
      subst e
      rw [hgb] at ho
      cases ho
      rfl
theorem wpListIn_append_int {F : Fence} {n : Nat} {P : Program} {w0 w : World} {ops : Array Oper} {rest : List Oper} {o : Oper} {a : Act} {Q : Exit → Act → World → Prop}
    (hgd : o.guard = none) (s x : Operand) (T : TypeId) (ho : o.op = .call { callee := .builtin .append, args := #[s, x], argTypes := #[T, T] })
    (E : TypeId) (ht : P.underlying T = some (.slice E)) (hinfo : (P.info? E).map (fun i => (i.zero, i.size, i.bytes)) = some (some (.int .i64 0), 1, 8))
    (v : Value) (l : List Int) (hs : a.eval s = v) (hown : OwnI E w0 w v l) (g : Nat) (y : Int) (hx : a.eval x = .slice (some ⟨g, 0, none⟩) 1 1) (hc : w.cell? ⟨g, 0, none⟩ = some (.int .i64 y))
    (hbytes : (l.length + 1) * 8 ≤ 140737488355328) (hbase : w0.heap.size ≤ w.heap.size)
    (h : ∀ v' w', OwnI E w0 w' v' (l ++ [y]) → w.grownBy w' v.ownBlock → wpListIn F n P ops Q rest (a.put o.dst v') w') : wpListIn F n P ops Q (o :: rest) a w := by
  obtain ⟨i, hi, hz0, hz1, hz2⟩ := info_parts hinfo
  refine wpListIn_append_own w hgd s x T ho w0.heap.size E i (.int .i64 0) 1 8 ht hi hz0 hz1 hz2 rfl (by decide) v l.length (l.map (.int .i64)) hs hown ⟨g, 0, none⟩ 1 1 [.int .i64 y] hx rfl ?_ (by simp [Value.oneCell'])
    (by simp [maxLen]; omega) hbytes hbase (fun v' w' k1 k2 _ => h v' w' (by unfold OwnI; rw [List.map_append, List.length_append]; exact k1) k2)
  intro j u hu
  obtain rfl : j = 0 := by
    have := (List.getElem?_eq_some_iff.1 hu).1
    simpa using this
  simp at hu
  subst hu
  rw [Addr.add_lit]
  exact hc
theorem box3 {w w1 : World} {o1 o2 : Obj} {v : Value} {T : TypeId} (h : Old (((w.alloc o1).alloc o2).alloc (.cells #[v] T)) w1) : Boxed w1 (w.heap.size + 1 + 1) T v := by
  have := Boxed.new ((w.alloc o1).alloc o2) T v
  have e : ((w.alloc o1).alloc o2).heap.size = w.heap.size + 1 + 1 := by simp
  rw [e] at this
  exact (h.block _ (by simp)).trans this
theorem Ints.one' (w : World) (E : TypeId) (x : Int) {n : Nat} (hn : n = w.heap.size) : Ints (w.alloc (.cells #[.int .i64 x] E)) (.slice (some ⟨n, 0, none⟩) 1 1) [x] := by
  subst hn; exact Ints.one w E x
end Go.Proofs.YtohngjkedhpikaaGreatDoor
/-
  MORE OF OWNED ROWS, over no program: make of integers; a store; what is kept while one block is written.
-/

namespace Go.Proofs.YtohngjkedhpikaaGreatDoor
open Go.RowKit

/-- all blocks that w had, but block g, lie as they lay -/
def OldBut (g : Nat) (w W : World) : Prop := KeptBut w.heap.size g w W
theorem OldBut.refl (g : Nat) (w : World) : OldBut g w w := KeptBut.refl _ _ _
theorem OldBut.alloc {g : Nat} {w W : World} (h : OldBut g w W) (o : Obj) : OldBut g w (W.alloc o) := h.trans (KeptBut.of_old ((Old.refl W).alloc o) h.size)
theorem OldBut.drew {g : Nat} {w W : World} (h : OldBut g w W) : OldBut g w W.drew := h.trans (KeptBut.of_old (Old.refl W).drew h.size)
theorem OldBut.setCell {g : Nat} {w W : World} (h : OldBut g w W) (o : Nat) (v : Value) : OldBut g w (W.setCell ⟨g, o, none⟩ v) := h.trans (KeptBut.setCell _ _ _)
theorem OldBut.trans {g : Nat} {x y z : World} (h : OldBut g x y) (k : OldBut g y z) : OldBut g x z :=
  KeptBut.trans h ⟨k.os, k.tape, k.output, k.size, fun i hi hb => k.block i (Nat.lt_of_lt_of_le hi h.size) hb⟩
theorem OldBut.old {g : Nat} {x y z : World} (h : OldBut g x y) (k : Old y z) : OldBut g x z := h.trans (KeptBut.of_old k (Nat.le_refl _))
theorem OldBut.cell {g : Nat} {w W : World} (h : OldBut g w W) {p : Addr} {v : Value} (hc : w.cell? p = some v) (hg : p.block ≠ g) : W.cell? p = some v :=
  (KeptBut.cell h (World.block_lt_of_cell? w p hc) hg).trans hc
theorem OldBut.base {g : Nat} {w0 w W : World} (h : OldBut g w W) (ho : Old w0 w) (hg : w0.heap.size ≤ g) : Old w0 W := KeptBut.old h ho ho.size hg
theorem laterBut {g : Nat} {w : World} {p : Addr} {v : Value} (hc : w.cell? p = some v) (hg : p.block ≠ g) : ∀ W, OldBut g w W → W.cell? p = some v := fun _ h => h.cell hc hg
/-- an owned row is owned from any lower place on -/
theorem OwnI.lower {E : TypeId} {w0 w1 w : World} {v : Value} {l : List Int} (h : OwnI E w1 w v l) (hs : w0.heap.size ≤ w1.heap.size) : OwnI E w0 w v l := by
  obtain ⟨h1, h2⟩ := h
  refine ⟨h1, ?_⟩
  rcases h2 with h2 | ⟨g, cap, cur, e, hb, r⟩
  · exact .inl h2
  · exact .inr ⟨g, cap, cur, e, Nat.le_trans hs hb, r⟩
theorem OwnI.but {E : TypeId} {w0 w w' : World} {a : Option Addr} {n cap : Nat} {l : List Int} {g : Nat} (h : OwnI E w0 w (.slice a n cap) l) (o : OldBut g w w') (hg : ∀ x, a = some x → x.block ≠ g) : OwnI E w0 w' (.slice a n cap) l := by
  obtain ⟨h1, h2⟩ := h
  refine ⟨h1, ?_⟩
  rcases h2 with h2 | ⟨g', cap', cur, e, hb, hc, r⟩
  · exact .inl h2
  · refine .inr ⟨g', cap', cur, e, hb, ?_, r⟩
    simp at e
    rw [o.block g' (Array.getElem?_eq_some_iff.1 hc).1 (hg _ e.1)]
    exact hc
theorem OwnI.setCell_other {E : TypeId} {w0 w : World} {a : Option Addr} {n cap : Nat} {l : List Int} {g o : Nat} (h : OwnI E w0 w (.slice a n cap) l) (v : Value) (hg : ∀ x, a = some x → x.block ≠ g) : OwnI E w0 (w.setCell ⟨g, o, none⟩ v) (.slice a n cap) l :=
  h.but ((OldBut.refl g w).setCell o v) hg
/-- a returned slice of integers in new memory, and a number -/
def RetOwnE (E : TypeId) (w w' : World) (l : List Int) (n : Int) (e : Ending) : Prop := ∃ v, e = .returned (.tuple #[v, .int .i64 n]) ∧ OwnI E w w' v l
section
variable {P : Program} {ops : Array Oper} {rest : List Oper} {o : Oper} {a : Act} {Q : Exit → Act → World → Prop}
theorem wpList_make_ints {w0 w : World} (hg : o.guard = none) (l c : Operand) (T : TypeId) (hop : o.op = Op.makeSlice T l c) (E : TypeId) (ht : P.underlying T = some (.slice E))
    (hinfo : (P.info? E).map (fun i => (i.zero, i.size, i.bytes)) = some (some (.int .i64 0), 1, 8)) (n : Nat) (hl : a.eval l = .int .i64 n) (hc : a.eval c = .int .i64 n) (hn : n ≤ 1073741824) (hold : Old w0 w)
    (hK : ∀ w', OwnI E w0 w' (.slice (some ⟨w.heap.size, 0, none⟩) n n) (List.replicate n 0) → Old w w' → w.heap.size < w'.heap.size → wpList P ops Q rest (a.put o.dst (.slice (some ⟨w.heap.size, 0, none⟩) n n)) w') : wpList P ops Q (o :: rest) a w := by
  obtain ⟨i, hi, hz0, hz1, hz2⟩ := info_parts hinfo
  refine wpList_make_full w hg l c T hop w0.heap.size E i (.int .i64 0) 1 ht hi hz0 hz1 .i64 .i64 n n n hl hc rfl rfl (by rw [hz2]; omega) (by simp [maxLen]; omega) hold.size fun w' h1 h2 => ?_
  refine hK w' ?_ ⟨h2.os, h2.tape, h2.output, h2.size, fun k hk => h2.block k hk (by simp)⟩ (h1.lt _ rfl).2
  unfold OwnI
  rw [List.length_replicate, List.map_replicate]
  simpa [toList_madeCells_one, Value.cells] using h1
end
end Go.Proofs.YtohngjkedhpikaaGreatDoor
/-
  SLICES OF RECORDS, over no program: elements of several cells, their cells by a function; read, owned, appended to, written in place.
-/

namespace Go.Proofs.YtohngjkedhpikaaGreatDoor
open Go.RowKit

/-- how an element lies in memory -/
structure Enc (α : Type) where
  k : Nat
  enc : α → List Value
  len : ∀ x, (enc x).length = k
  one : ∀ x, ∀ u ∈ enc x, u.oneCell' = true
variable {α : Type} {c : Enc α}
def Enc.all (c : Enc α) (t : List α) : List Value := t.flatMap c.enc
theorem Enc.all_nil : c.all [] = [] := rfl
theorem Enc.all_cons (x : α) (t : List α) : c.all (x :: t) = c.enc x ++ c.all t := rfl
theorem Enc.all_append (t u : List α) : c.all (t ++ u) = c.all t ++ c.all u := by simp [Enc.all]
theorem Enc.all_one (x : α) : c.all [x] = c.enc x := by simp [Enc.all]
theorem Enc.all_length : ∀ t : List α, (c.all t).length = t.length * c.k
  | [] => by simp [Enc.all]
  | x :: t => by rw [Enc.all_cons, List.length_append, c.len, Enc.all_length t, List.length_cons, Nat.add_mul, Nat.one_mul, Nat.add_comm]
theorem Enc.cells_one (t : List α) : ∀ u ∈ c.all t, u.oneCell' = true := by
  intro u hu
  obtain ⟨x, _, hx⟩ := List.mem_flatMap.1 hu
  exact c.one x u hx
theorem Enc.all_at : ∀ {t : List α} {i j : Nat} {x : α} {u : Value}, t[i]? = some x → (c.enc x)[j]? = some u → (c.all t)[i * c.k + j]? = some u
  | [], i, j, x, u, hx, _ => by simp at hx
  | y :: t, 0, j, x, u, hx, hu => by
    obtain rfl : y = x := by simpa using hx
    have hj := (List.getElem?_eq_some_iff.1 hu).1
    rw [Enc.all_cons, Nat.zero_mul, Nat.zero_add, List.getElem?_append_left hj, hu]
  | y :: t, i + 1, j, x, u, hx, hu => by
    have ih := Enc.all_at (t := t) (i := i) (by simpa using hx) hu
    rw [Enc.all_cons, List.getElem?_append_right (by rw [c.len, Nat.add_mul]; omega), c.len, show (i + 1) * c.k + j - c.k = i * c.k + j from by rw [Nat.add_mul]; omega]
    exact ih
theorem Enc.all_set : ∀ {t : List α} {i j : Nat} {x x' : α} {v : Value}, t[i]? = some x → j < c.k → c.enc x' = (c.enc x).set j v → (c.all t).set (i * c.k + j) v = c.all (t.set i x')
  | [], i, j, x, x', v, hx, _, _ => by simp at hx
  | y :: t, 0, j, x, x', v, hx, hj, he => by
    obtain rfl : y = x := by simpa using hx
    rw [List.set_cons_zero, Enc.all_cons, Enc.all_cons, he, Nat.zero_mul, Nat.zero_add, List.set_append_left _ _ (by rw [c.len]; exact hj)]
  | y :: t, i + 1, j, x, x', v, hx, hj, he => by
    have ih := Enc.all_set (t := t) (i := i) (by simpa using hx) hj he
    rw [List.set_cons_succ, Enc.all_cons, Enc.all_cons, List.set_append_right _ _ (by rw [c.len, Nat.add_mul]; omega), c.len, show (i + 1) * c.k + j - c.k = i * c.k + j from by rw [Nat.add_mul]; omega, ih]

/-- v: a slice of records -/
def Recs (c : Enc α) (w : World) (v : Value) (t : List α) : Prop :=
  ∃ a cap b off, v = .slice a t.length cap ∧ t.length ≤ cap ∧ cap ≤ 9223372036854775807 ∧ (0 < t.length → a = some ⟨b, off, none⟩) ∧ ∀ j u, (c.all t)[j]? = some u → ∀ W, Old w W → W.cell? ⟨b, off + j, none⟩ = some u
theorem Recs.old {w w' : World} {v : Value} {t : List α} (h : Recs c w v t) (o : Old w w') : Recs c w' v t := by
  obtain ⟨a, cap, b, off, e, h1, h2, h3, h4⟩ := h
  exact ⟨a, cap, b, off, e, h1, h2, h3, fun j u hu W hW => h4 j u hu W (o.trans hW)⟩
theorem Recs.nil (c : Enc α) (w : World) : Recs c w (.slice none 0 0) [] := ⟨none, 0, 0, 0, rfl, by simp, by simp, by simp, by simp [Enc.all]⟩
theorem Recs.mk {w : World} {b off cap : Nat} {t : List α} (h1 : t.length ≤ cap) (h2 : cap ≤ 9223372036854775807) (h : ∀ j u, (c.all t)[j]? = some u → w.cell? ⟨b, off + j, none⟩ = some u) :
    Recs c w (.slice (some ⟨b, off, none⟩) t.length cap) t := ⟨_, cap, b, off, rfl, h1, h2, fun _ => rfl, fun j u hu => later (h j u hu)⟩
theorem Recs.form {w : World} {v : Value} {t : List α} (h : Recs c w v t) : ∃ a cap, v = .slice a t.length cap ∧ t.length ≤ cap ∧ cap ≤ 9223372036854775807 := by
  obtain ⟨a, cap, b, off, e, h1, h2, _⟩ := h; exact ⟨a, cap, e, h1, h2⟩
theorem Recs.of_row {w : World} {base e : Nat} {v : Value} {t : List α} {n : Nat} (hn : n = t.length) (h : w.ownsRow base e c.k v n (c.all t)) : Recs c w v t := by
  subst hn
  obtain ⟨hl, h⟩ := h
  rcases h with ⟨rfl, h0⟩ | ⟨g, cap, cur, rfl, hb, hg, hnc, hcm, hcs, htake⟩
  · have : t = [] := List.eq_nil_of_length_eq_zero h0
    subst this; exact Recs.nil c w
  · have hown : w.ownsRow base e c.k (.slice (some ⟨g, 0, none⟩) t.length cap) t.length (c.all t) := ⟨hl, .inr ⟨g, cap, cur, rfl, hb, hg, hnc, hcm, hcs, htake⟩⟩
    refine Recs.mk hnc (by simpa [maxLen] using hcm) fun j u hu => ?_
    have hj := (List.getElem?_eq_some_iff.1 hu).1
    rw [Enc.all_length] at hj
    rw [Nat.zero_add, hown.cellAt j hj, hu]
theorem Recs.one (w : World) (E : TypeId) (x : α) : Recs c (w.alloc (.cells (c.enc x).toArray E)) (.slice (some ⟨w.heap.size, 0, none⟩) 1 1) [x] :=
  Recs.mk (t := [x]) (cap := 1) (by simp) (by simp) (fun j u hu => by
    rw [Enc.all_one] at hu
    rw [Nat.zero_add]
    have hj := (List.getElem?_eq_some_iff.1 hu).1
    simp [go_sem]
    simpa using hu)
/-- a row of the call's own -/
def OwnS (c : Enc α) (E : TypeId) (w0 w : World) (v : Value) (t : List α) : Prop := w.ownsRow w0.heap.size E c.k v t.length (c.all t)
section own
variable {E : TypeId} {w0 w w' : World} {v : Value} {t : List α}
theorem OwnS.recs (h : OwnS c E w0 w v t) : Recs c w v t := Recs.of_row rfl h
theorem OwnS.nil (c : Enc α) (E : TypeId) (w0 w : World) : OwnS c E w0 w (.slice none 0 0) [] := World.ownsRow_nil w _ E c.k
theorem OwnS.alloc (h : OwnS c E w0 w v t) (o : Obj) : OwnS c E w0 (w.alloc o) v t := World.ownsRow.alloc h o
theorem OwnS.kept {row : Option Nat} (h : OwnS c E w0 w v t) (hg : w.grownBy w' row) (hne : v.ownBlock = none ∨ v.ownBlock ≠ row) : OwnS c E w0 w' v t := World.ownsRow.kept h hg hne
theorem OwnS.old (h : OwnS c E w0 w v t) (o : Old w w') : OwnS c E w0 w' v t := by
  have hg := Old.grownBy o none
  exact World.ownsRow.kept h hg (by cases hv : v.ownBlock <;> simp)
theorem OwnS.drew (h : OwnS c E w0 w v t) : OwnS c E w0 w.drew v t := h
theorem OwnS.len {a : Option Addr} {n cap : Nat} (h : OwnS c E w0 w (.slice a n cap) t) : n = t.length := by
  obtain ⟨a', cap', e, _⟩ := ownsRow_form h
  simp at e
  exact e.2.1
theorem OwnS.form (h : OwnS c E w0 w v t) : ∃ a cap, v = .slice a t.length cap ∧ t.length ≤ cap ∧ cap ≤ 9223372036854775807 := ownsRow_form h
theorem OwnS.block {a : Option Addr} {n cap : Nat} (h : OwnS c E w0 w (.slice a n cap) t) (hl : 0 < t.length) : ∃ g, a = some ⟨g, 0, none⟩ ∧ w0.heap.size ≤ g ∧ g < w.heap.size := by
  obtain ⟨h1, ⟨h2, h0⟩ | ⟨g, c, cur, e, hb, hg, _⟩⟩ := h
  · omega
  · simp at e
    exact ⟨g, e.1, hb, (Array.getElem?_eq_some_iff.1 hg).1⟩
theorem OwnS.cell {g n cap : Nat} (h : OwnS c E w0 w (.slice (some ⟨g, 0, none⟩) n cap) t) {i j : Nat} {x : α} {u : Value} (hx : t[i]? = some x) (hu : (c.enc x)[j]? = some u) : w.cell? ⟨g, i * c.k + j, none⟩ = some u := by
  obtain rfl := h.len
  have hall := Enc.all_at hx hu
  have hj := (List.getElem?_eq_some_iff.1 hall).1
  rw [Enc.all_length] at hj
  rw [World.ownsRow.cellAt h _ hj, hall]
theorem OwnS.frozen {g n cap : Nat} (h : OwnS c E w0 w (.slice (some ⟨g, 0, none⟩) n cap) t) (j : Nat) : w.frozen? ⟨g, j, none⟩ = false := by
  obtain rfl := h.len
  exact World.ownsRow.frozenAt h j
theorem OwnS.stored {g n cap : Nat} (h : OwnS c E w0 w (.slice (some ⟨g, 0, none⟩) n cap) t) {i j : Nat} {x x' : α} {u : Value} (hx : t[i]? = some x) (hj : j < c.k) (he : c.enc x' = (c.enc x).set j u) :
    OwnS c E w0 (w.setCell ⟨g, i * c.k + j, none⟩ u) (.slice (some ⟨g, 0, none⟩) n cap) (t.set i x') := by
  obtain rfl := h.len
  have := (World.ownsRow.stored h (i * c.k + j) u).1
  rw [Enc.all_set hx hj he] at this
  unfold OwnS
  rw [List.length_set]
  exact this
theorem OwnS.lower {w1 : World} (h : OwnS c E w1 w v t) (hs : w0.heap.size ≤ w1.heap.size) : OwnS c E w0 w v t := by
  obtain ⟨h1, h2⟩ := h
  refine ⟨h1, ?_⟩
  rcases h2 with h2 | ⟨g, cap, cur, e, hb, r⟩
  · exact .inl h2
  · exact .inr ⟨g, cap, cur, e, Nat.le_trans hs hb, r⟩
theorem OwnS.but {a : Option Addr} {n cap g : Nat} (h : OwnS c E w0 w (.slice a n cap) t) (o : OldBut g w w') (hg : ∀ x, a = some x → x.block ≠ g) : OwnS c E w0 w' (.slice a n cap) t := by
  obtain ⟨h1, h2⟩ := h
  refine ⟨h1, ?_⟩
  rcases h2 with h2 | ⟨g', cap', cur, e, hb, hc, r⟩
  · exact .inl h2
  · refine .inr ⟨g', cap', cur, e, hb, ?_, r⟩
    simp at e
    rw [o.block g' (Array.getElem?_eq_some_iff.1 hc).1 (hg _ e.1)]
    exact hc
end own
section
variable {P : Program} {ops : Array Oper} {rest : List Oper} {o : Oper} {a : Act} {Q : Exit → Act → World → Prop}
theorem Recs.cells {w : World} {b off : Nat} {t : List α} (h4 : ∀ j u, (c.all t)[j]? = some u → ∀ W, Old w W → W.cell? ⟨b, off + j, none⟩ = some u) {W : World} (hW : Old w W) :
    ∀ j u, (c.all t)[j]? = some u → W.cell? ((⟨b, off, none⟩ : Addr).add j) = some u := fun j u hu => by rw [Addr.add_lit]; exact h4 j u hu W hW
theorem wpList_append_recs {w0 w : World} (hgd : o.guard = none) (s x : Operand) (T : TypeId) (ho : o.op = .call { callee := .builtin .append, args := #[s, x], argTypes := #[T, T] })
    (E : TypeId) (ht : P.underlying T = some (.slice E)) (z : Value) {bytes : Nat} (hinfo : (P.info? E).map (fun i => (i.zero, i.size, i.bytes)) = some (some z, c.k, bytes)) (hzs : z.cells.size = c.k) (hsz : 0 < c.k)
    (v : Value) (l u : List α) (hs : a.eval s = v) (hown : OwnS c E w0 w v l) (vx : Value) (hx : a.eval x = vx) (hu : Recs c w vx u)
    (h63 : l.length + u.length ≤ 9223372036854775807) (hbytes : (l.length + u.length) * bytes ≤ 140737488355328) (hold : Old w0 w)
    (h : ∀ v' w', OwnS c E w0 w' v' (l ++ u) → Old w0 w' → w.grownBy w' v.ownBlock → wpList P ops Q rest (a.put o.dst v') w') : wpList P ops Q (o :: rest) a w := by
  obtain ⟨ao, cap, b, off, rfl, hn1, hn2, ha, ht0⟩ := hu
  exact wpList_append_any hgd s x T ho E ht z c.k bytes hinfo hzs hsz v l.length (c.all l) hs hown ao u.length cap (c.all u) hx (Enc.all_length u) ⟨b, off, none⟩ ha (Recs.cells ht0 (Old.refl w)) (Enc.cells_one u)
    h63 hbytes hold (fun v' w' k1 k2 k3 => h v' w' (by unfold OwnS; rw [Enc.all_append, List.length_append]; exact k1) k2 k3)
/-- append of one record that lies in a block of its own; a lower base -/
theorem wpList_append_rec1 {w0 w : World} (hgd : o.guard = none) (s x : Operand) (T : TypeId) (ho : o.op = .call { callee := .builtin .append, args := #[s, x], argTypes := #[T, T] })
    (E : TypeId) (ht : P.underlying T = some (.slice E)) (z : Value) {bytes : Nat} (hinfo : (P.info? E).map (fun i => (i.zero, i.size, i.bytes)) = some (some z, c.k, bytes)) (hzs : z.cells.size = c.k) (hsz : 0 < c.k)
    (v : Value) (l : List α) (hs : a.eval s = v) (hown : OwnS c E w0 w v l) (b : Nat) (y : α) (hx : a.eval x = .slice (some ⟨b, 0, none⟩) 1 1) (hc : ∀ j u, (c.enc y)[j]? = some u → w.cell? ⟨b, j, none⟩ = some u)
    (h63 : l.length + 1 ≤ 9223372036854775807) (hbytes : (l.length + 1) * bytes ≤ 140737488355328) (hold : w0.heap.size ≤ w.heap.size)
    (h : ∀ v' w', OwnS c E w0 w' v' (l ++ [y]) → w.grownBy w' v.ownBlock → wpList P ops Q rest (a.put o.dst v') w') : wpList P ops Q (o :: rest) a w := by
  obtain ⟨i, hi, hz0, hz1, hz2⟩ := info_parts hinfo
  refine wpList_append_own w hgd s x T ho w0.heap.size E i z c.k bytes ht hi hz0 hz1 hz2 hzs hsz v l.length (c.all l) hs hown ⟨b, 0, none⟩ 1 1 (c.enc y) hx (by rw [c.len, Nat.one_mul]) ?_ (c.one y) (by simpa [maxLen] using h63) hbytes hold ?_
  · intro j u hu
    rw [Addr.add_lit, Nat.zero_add]
    exact hc j u hu
  · intro v' w' a1 a2 _
    refine h v' w' ?_ a2
    unfold OwnS
    rw [Enc.all_append, Enc.all_one, List.length_append]
    exact a1
end
end Go.Proofs.YtohngjkedhpikaaGreatDoor
/-
  TEXT, CELLS: the cells of a text.
-/



namespace Go.Proofs.YtohngjkedhpikaaGreatDoor
open Go.RowKit
attribute [local go_sem] Old.refl Old.alloc Old.drew Old.setCell OldW.old

/-- a cell of a text: from where to where, how wide -/
structure CellR where
  a : Nat
  e : Nat
  w : Nat
def cellE (s : ByteArray) : Enc CellR where
  k := 3
  enc x := [.string (s.extract x.a x.e), .int .i64 x.a, .int .i64 x.w]
  len _ := rfl
  one x u hu := by
    simp only [List.mem_cons, List.not_mem_nil, or_false] at hu
    rcases hu with rfl | rfl | rfl <;> rfl
def lastC (t : List CellR) : CellR := t.getD (t.length - 1) ⟨0, 0, 0⟩
/-- one character more -/
def addC (t : List CellR) (p q w : Nat) : List CellR := if w = 0 ∧ 0 < t.length then t.set (t.length - 1) { lastC t with e := q } else t ++ [⟨p, q, max w 1⟩]
theorem addC_grow {t : List CellR} {p q : Nat} (h : 0 < t.length) : addC t p q 0 = t.set (t.length - 1) { lastC t with e := q } := by unfold addC; rw [if_pos ⟨rfl, h⟩]
theorem addC_first {p q : Nat} : addC [] p q 0 = [⟨p, q, 1⟩] := by unfold addC; rw [if_neg (by simp)]; rfl
theorem addC_new {t : List CellR} {p q w : Nat} (h : 1 ≤ w) : addC t p q w = t ++ [⟨p, q, w⟩] := by unfold addC; rw [if_neg (by omega), Nat.max_eq_left h]
/-- the last cell ends where one is -/
def Ends (t : List CellR) (p : Nat) : Prop := 0 < t.length → (lastC t).e = p ∧ (lastC t).a ≤ p
theorem lastC_get {t : List CellR} (h : 0 < t.length) : t[t.length - 1]? = some (lastC t) := by
  unfold lastC; rw [List.getD_eq_getElem?_getD, List.getElem?_eq_getElem (by omega)]; rfl
theorem lastC_app (t : List CellR) (x : CellR) : lastC (t ++ [x]) = x := by unfold lastC; simp
theorem Ends.add {t : List CellR} {p q w : Nat} (h : Ends t p) (hq : p ≤ q) : Ends (addC t p q w) q := by
  unfold addC
  split
  · rename_i hc
    obtain ⟨h1, h2⟩ := h hc.2
    intro _
    unfold lastC
    rw [List.length_set, List.getD_eq_getElem?_getD, List.getElem?_set_self (by omega)]
    exact ⟨rfl, by show (lastC t).a ≤ q; omega⟩
  · intro _
    rw [lastC_app]
    exact ⟨rfl, hq⟩
/-- the cells, from a place on, behind those that are there -/
def cellsGo (l : List UInt8) (p : Nat) (t : List CellR) : List CellR := if p < l.length then cellsGo l (p + chN l p) (addC t p (p + chN l p) (widC (chR l p))) else t
termination_by l.length - p
decreasing_by have := chN_pos l p; omega
theorem cellsGo_on {l : List UInt8} {p : Nat} (h : p < l.length) (t : List CellR) : cellsGo l p t = cellsGo l (p + chN l p) (addC t p (p + chN l p) (widC (chR l p))) := by rw [cellsGo, if_pos h]
theorem cellsGo_end {l : List UInt8} {p : Nat} (h : ¬ p < l.length) (t : List CellR) : cellsGo l p t = t := by rw [cellsGo, if_neg h]
theorem addC_len {t : List CellR} {p q w : Nat} : (addC t p q w).length ≤ t.length + 1 := by unfold addC; split <;> simp
def cellsL (l : List UInt8) : List CellR := cellsGo l 0 []
theorem extract_glue (s : ByteArray) {a p q : Nat} (h1 : a ≤ p) (h2 : p ≤ q) : s.extract a p ++ s.extract p q = s.extract a q := by
  rw [ByteArray.extract_append_extract, Nat.min_eq_left h1, Nat.max_eq_right h2]
theorem wrap_id {x : Int} (h0 : -9223372036854775808 ≤ x) (h1 : x ≤ 9223372036854775807) : IntKind.i64.wrap x = x := by
  simp only [IntKind.wrap_i64]
  omega
theorem widC_cases (r : Int) : widC r = 0 ∨ widC r = 1 ∨ widC r = 2 := by
  unfold widC
  split
  · exact .inl rfl
  · split
    · exact .inr (.inr rfl)
    · exact .inr (.inl rfl)
end Go.Proofs.YtohngjkedhpikaaGreatDoor
/-
  TEXT, WIDE, WORDS.
-/

namespace Go.Proofs.YtohngjkedhpikaaGreatDoor
open Go.RowKit
attribute [local go_sem] Old.refl Old.alloc Old.drew Old.setCell OldW.old

theorem cellsGo_ind {l : List UInt8} {Q : List CellR → Nat → Prop} (step : ∀ t p, p < l.length → Q t p → Q (addC t p (p + chN l p) (widC (chR l p))) (p + chN l p)) :
    ∀ (d p : Nat) (t : List CellR), l.length - p = d → p ≤ l.length → Q t p → Q (cellsGo l p t) l.length := by
  intro d
  induction d using Nat.strongRecOn with
  | _ d ih =>
    intro p t hd hp h
    by_cases hlt : p < l.length
    · have h1 := chN_pos l p
      have h2 := chN_le hlt
      rw [cellsGo_on hlt]
      exact ih (l.length - (p + chN l p)) (by omega) _ _ rfl h2 (step t p hlt h)
    · obtain rfl : p = l.length := by omega
      rw [cellsGo_end hlt]; exact h
theorem cellsL_ind {l : List UInt8} {Q : List CellR → Nat → Prop} (h0 : Q [] 0) (step : ∀ t p, p < l.length → Q t p → Q (addC t p (p + chN l p) (widC (chR l p))) (p + chN l p)) : Q (cellsL l) l.length :=
  cellsGo_ind step _ 0 [] rfl (Nat.zero_le _) h0
theorem cellsL_len (l : List UInt8) : (cellsL l).length ≤ l.length :=
  cellsL_ind (Q := fun t p => t.length ≤ p) (Nat.le_refl _) (fun t p hp h => by
    have h1 := chN_pos l p
    have h2 := addC_len (t := t) (p := p) (q := p + chN l p) (w := widC (chR l p))
    omega)
theorem addC_mem {t : List CellR} {p q w : Nat} {x : CellR} (h : x ∈ addC t p q w) : (∃ y ∈ t, x.w = y.w) ∨ x = ⟨p, q, max w 1⟩ := by
  unfold addC at h
  split at h
  · rename_i hc
    rcases List.mem_or_eq_of_mem_set h with h | rfl
    · exact .inl ⟨x, h, rfl⟩
    · exact .inl ⟨lastC t, List.mem_of_getElem? (lastC_get hc.2), rfl⟩
  · rw [List.mem_append] at h
    rcases h with h | h
    · exact .inl ⟨x, h, rfl⟩
    · exact .inr (List.mem_singleton.1 h)
/-- each cell is one or two wide -/
theorem cellsL_wide (l : List UInt8) : ∀ x ∈ cellsL l, 1 ≤ x.w ∧ x.w ≤ 2 :=
  cellsL_ind (Q := fun t _ => ∀ x ∈ t, 1 ≤ x.w ∧ x.w ≤ 2) (by simp) (fun t p hp h x hx => by
    rcases addC_mem hx with ⟨y, hy, e⟩ | rfl
    · rw [e]; exact h y hy
    · have := widC_cases (chR l p)
      show 1 ≤ max _ 1 ∧ max _ 1 ≤ 2
      omega)
def sumW : List CellR → Nat
  | [] => 0
  | x :: t => x.w + sumW t
theorem sumW_app (t u : List CellR) : sumW (t ++ u) = sumW t + sumW u := by
  induction t with
  | nil => simp [sumW]
  | cons x t ih => simp [sumW, ih, Nat.add_assoc]
theorem sumW_take {t : List CellR} {k : Nat} {x : CellR} (h : t[k]? = some x) : sumW (t.take (k + 1)) = sumW (t.take k) + x.w := by
  have hlt := (List.getElem?_eq_some_iff.1 h).1
  rw [List.take_succ_eq_append_getElem hlt, sumW_app, (List.getElem?_eq_some_iff.1 h).2]; rfl
theorem sumW_le : ∀ {t : List CellR}, (∀ x ∈ t, 1 ≤ x.w ∧ x.w ≤ 2) → sumW t ≤ 2 * t.length
  | [], _ => by simp [sumW]
  | x :: t, h => by
    have h1 := h x (by simp)
    have h2 := sumW_le (t := t) (fun y hy => h y (by simp [hy]))
    simp only [sumW, List.length_cons]; omega
/-- how wide a text is -/
def wideS (s : ByteArray) : Nat := sumW (cellsL s.data.toList)
theorem wideS_le (s : ByteArray) : wideS s ≤ 2 * s.size := by
  have h1 := sumW_le (cellsL_wide s.data.toList)
  have h2 := cellsL_len s.data.toList
  rw [str_len] at h2
  unfold wideS; omega
end Go.Proofs.YtohngjkedhpikaaGreatDoor
/-
  TEXT, WORDS.
-/




namespace Go.Proofs.YtohngjkedhpikaaGreatDoor
open Go.RowKit
attribute [local go_sem] Old.refl Old.alloc Old.drew Old.setCell OldW.old
def isSp (s : ByteArray) (i : Nat) : Bool := s.data.toList.getD i 0 == 32
/-- a word more, if one stands there -/
def addW (s : ByteArray) (t : List CellR) (p i : Nat) : List CellR := if p < i then t ++ [⟨p, i, wideS (s.extract p i)⟩] else t
/-- the words, from a place on, behind those that are there, the last begun at p -/
def wordsGo (s : ByteArray) (i p : Nat) (t : List CellR) : List CellR :=
  if i ≤ s.size then (if i < s.size ∧ isSp s i = false then wordsGo s (i + 1) p t else wordsGo s (i + 1) (i + 1) (addW s t p i)) else t
termination_by s.size + 1 - i
def wordsS (s : ByteArray) : List CellR := wordsGo s 0 0 []
theorem wordsGo_in {s : ByteArray} {i : Nat} (h : i < s.size) (h' : isSp s i = false) (p : Nat) (t : List CellR) : wordsGo s i p t = wordsGo s (i + 1) p t := by rw [wordsGo, if_pos (by omega), if_pos ⟨h, h'⟩]
theorem wordsGo_cut {s : ByteArray} {i : Nat} (h : i ≤ s.size) (h' : i < s.size → isSp s i = true) (p : Nat) (t : List CellR) : wordsGo s i p t = wordsGo s (i + 1) (i + 1) (addW s t p i) := by
  rw [wordsGo, if_pos h, if_neg]
  rintro ⟨h1, h2⟩
  rw [h' h1] at h2; cases h2
theorem wordsGo_end {s : ByteArray} {i : Nat} (h : ¬ i ≤ s.size) (p : Nat) (t : List CellR) : wordsGo s i p t = t := by rw [wordsGo, if_neg h]
theorem byte_get (s : ByteArray) {i : Nat} (h : i < s.size) : s[i]'h = s.data.toList.getD i 0 := by
  have h' : i < s.data.toList.length := by rw [str_len]; exact h
  rw [List.getD_eq_getElem?_getD, List.getElem?_eq_getElem h']
  rfl
theorem byte_ne (s : ByteArray) {i : Nat} (h : i < s.size) : (((s[i]'h).toNat : Int) != 32) = !isSp s i := by
  rw [byte_get s h]
  unfold isSp
  generalize s.data.toList.getD i 0 = x
  rw [Bool.eq_iff_iff]
  simp only [bne_iff_ne, ne_eq, Bool.not_eq_true', beq_eq_false_iff_ne]
  refine not_congr ⟨fun e => ?_, fun e => by rw [e]; rfl⟩
  exact UInt8.toNat_inj.1 (by have h32 : (32 : UInt8).toNat = 32 := rfl; omega)
theorem extract_size {s : ByteArray} {p i : Nat} : (s.extract p i).size ≤ s.size := by rw [ByteArray.size_extract]; omega
end Go.Proofs.YtohngjkedhpikaaGreatDoor
