/-
  RANGE OVER A FUNCTION, over no program: what a round keeps ('KeptBut'), drawn regions inside a round.
-/
import Derived.Test.YtpifkinlaicliaaGreatDoorZBase
import Derived.RangeFuncFrom
import Derived.RangeFuncBound
import Derived.RangeFuncCalls
import Derived.RangeFuncLeaves
import Derived.RangeFuncBox
import Derived.OwnWalkIn
import Derived.TacticsInMore
import Derived.LoopNIn
import Derived.LoopIn
import Derived.Shelf.Abstract
import Derived.Shelf.RegionOpen
import Derived.BigFrameIn
namespace Go.Proofs.YtpifkinlaicliaaGreatDoor
open Go.RowKit

/-- all blocks below n but block b lie as they lay -/
structure KeptBut (n b : Nat) (w w' : World) : Prop where
  os : w'.os = w.os
  tape : w'.tape = w.tape
  output : w'.output = w.output
  size : w.heap.size ≤ w'.heap.size
  block : ∀ k, k < n → k ≠ b → w'.heap[k]? = w.heap[k]?
theorem KeptBut.refl (n b : Nat) (w : World) : KeptBut n b w w := ⟨rfl, rfl, rfl, Nat.le_refl _, fun _ _ _ => rfl⟩
theorem KeptBut.trans {n b : Nat} {x y z : World} (h : KeptBut n b x y) (k : KeptBut n b y z) : KeptBut n b x z :=
  ⟨k.os.trans h.os, k.tape.trans h.tape, k.output.trans h.output, Nat.le_trans h.size k.size, fun i hi hb => (k.block i hi hb).trans (h.block i hi hb)⟩
theorem KeptBut.old {n b : Nat} {w0 w w' : World} (h : KeptBut n b w w') (ho : Old w0 w) (hn : w0.heap.size ≤ n) (hb : w0.heap.size ≤ b) : Old w0 w' :=
  Below.trans ho (show Below w0.heap.size w w' from ⟨h.os, h.tape, h.output, h.size, fun k hk => h.block k (by omega) (by omega)⟩)
theorem KeptBut.cell {n b : Nat} {w w' : World} (h : KeptBut n b w w') {p : Addr} (hp : p.block < n) (hb : p.block ≠ b) : w'.cell? p = w.cell? p := World.cell?_of_block (h.block _ hp hb)
theorem KeptBut.grown {n b : Nat} {w w' : World} {row : Option Nat} (hg : w.grownBy w' row) (hn : n ≤ w.heap.size) (hr : ∀ k, row = some k → n ≤ k ∨ k = b) : KeptBut n b w w' :=
  ⟨hg.os, hg.tape, hg.output, hg.size, fun k hk hb => hg.block k (by omega) (fun e => by have := hr k e.symm; omega)⟩
theorem KeptBut.of_old {n b : Nat} {w w' : World} (h : Old w w') (hn : n ≤ w.heap.size) : KeptBut n b w w' :=
  ⟨h.os, h.tape, h.output, h.size, fun k hk _ => h.block k (by omega)⟩
theorem KeptBut.setCell {n b : Nat} (w : World) (o : Nat) (v : Value) : KeptBut n b w (w.setCell ⟨b, o, none⟩ v) :=
  ⟨rfl, rfl, rfl, by simp [World.setCell], fun k _ hb => Below.heap_setCell _ _ _ _ hb⟩
theorem keptK_b {n b : Nat} {w : World} (hn : n ≤ w.heap.size) (W : World) (l : Nat) (o o' : Obj) (hl : w.heap.size ≤ l) (h : W.heap[l]? = some o) (_ : o.isCells = false) (_ : o.isWalk = false) : KeptBut n b W (W.putObj l o') :=
  KeptBut.grown (grownBy_putObj' W l o') (by have := (Array.getElem?_eq_some_iff.1 h).1; omega) (fun k e => by cases e; exact .inl (by omega))
theorem ownFrom_kept {β : Type} {n b B : Nat} {w0 : World} (hn : n ≤ w0.heap.size) (hB : n ≤ B) : OwnFrom B (fun (_ : β) W => KeptBut n b w0 W) :=
  fun _ _ _ _ hs hg hr => hs.trans (KeptBut.grown hg (Nat.le_trans hn hs.size) (fun k e => .inl (Nat.le_trans hB (hr k e).1)))

section
variable {P : Program} {ops : Array Oper} {C : World → Prop} {l n : Nat}
theorem Oper.wpIn_of_quiet {o : Oper} {a : Act} {K : Act → Prop} {K' : Act → World → Prop} {Q' : Exit → Act → World → Prop} {w : World} (hnd : ∀ c, o.op ≠ .defer c) (hw : C w) (h : ∀ a w', C w' → K a → K' a w') (hh : o.quiet P a C K) :
    o.wpIn (Fence.wide.inRound l) n P a w K' Q' := by
  obtain ⟨v, h1, h2⟩ := hh
  have h3 := h1 w hw
  unfold Oper.quietAt at h3
  refine ⟨fun _ _ => trivial, ?_⟩
  rw [show (Fence.wide.inRound l).round = some l from rfl, Oper.semAt_some l _ _ hnd]
  generalize (execOp a.eval o).run P w = r at *
  cases r with
  | ok nx w' =>
    cases nx <;> simp only [Oper.quietUpon] at h3 <;> simp only [Oper.uponIn]
    case value u =>
      obtain ⟨e1, e2⟩ := h3
      rw [e1, e2]
      exact h _ _ hw h2
    case skip =>
      obtain ⟨e1, e2⟩ := h3
      rw [e1, ← e2]
      exact h _ _ hw h2
    case enter f args =>
      obtain ⟨e1, hc⟩ := h3
      rw [e1]
      refine ⟨fun hd => by simp [Fence.wide] at hd, CallsIn.inRound l (callsIn_wide.2 (hc.mono fun e w'' ⟨he, hw''⟩ => ?_))⟩
      subst he
      exact h _ _ hw'' h2
  | halt x w' => simp only [Oper.quietUpon] at h3
theorem wpOpIn_of_qOp {i : Nat} {a : Act} {K : Act → Prop} {K' : Act → World → Prop} {Q' : Exit → Act → World → Prop} {w : World} (hnd : ∀ (j : Nat) (o : Oper) c, ops[j]? = some o → o.op ≠ .defer c) (hC : C w) (h : ∀ a w', C w' → K a → K' a w') (hh : qOp P ops C i K a) :
    wpOpIn (Fence.wide.inRound l) n P ops Q' i K' a w := by
  unfold qOp at hh
  unfold wpOpIn
  split
  · rename_i ho; simp only [ho] at hh; exact h _ _ hC hh
  · rename_i o ho
    simp only [ho] at hh
    split
    · rename_i hw; simp only [hw, if_true] at hh; exact Oper.wpIn_of_quiet (fun c => hnd i o c ho) hC h hh
    · rename_i hw; simp only [hw] at hh; exact ⟨fun _ _ => trivial, h _ _ hC hh⟩
theorem wpAnyIn_of_quiet {md : Region.Mode} {Q : Act → Prop} {Q' : Exit → Act → World → Prop} (hnd : ∀ (j : Nat) (o : Oper) c, ops[j]? = some o → o.op ≠ .defer c) (hQ : ∀ a w, C w → Q a → Q' .normal a w) : ∀ (fuel : Nat) (listed : Array Bool) (a : Act) (w : World), C w →
    wpAnyQ P md ops C Q fuel listed a → wpAnyIn (Fence.wide.inRound l) n P md ops Q' fuel listed a w
  | 0, _, _, _, hw, h => ⟨h.1, hQ _ _ hw h.2⟩
  | fuel + 1, _, _, _, hw, h => ⟨fun h0 => hQ _ _ hw (h.1 h0), fun i hi => wpOpIn_of_qOp hnd hw (fun a' w' hw' => wpAnyIn_of_quiet hnd hQ fuel _ a' w' hw') (h.2 i hi)⟩
def noDefer (l : List Oper) : Bool := l.all fun o => match o.op with | .defer _ => false | _ => true
/-- a drawn region inside a round: one walk, in the text's order -/
theorem wpIn_region_old {id : Nat} {Q : Exit → Act → World → Prop} {a : Act} {w0 w : World} {os : List Oper} (h0 : Old w0 w) (hm : P.follows .mixedOrders = true) (hB : Region.lexB .any os.toArray = true) (hnd : noDefer os = true)
    (h : wpQuiet P os.toArray (fun w' => ∃ W : OldW w0, w' = W.w') (fun a' => ∀ W : OldW w0, Q .normal a' W.w') os a) : (Code.region id os.toArray true).wpIn (Fence.wide.inRound l) n P Q a w := by
  simp only [Region.lexB, Bool.and_eq_true] at hB
  have hnd' : ∀ (j : Nat) (o : Oper) c, os.toArray[j]? = some o → o.op ≠ .defer c := by
    intro j o c ho e
    have hmem : o ∈ os := by
      rw [List.getElem?_toArray] at ho
      exact List.mem_of_getElem? ho
    have := List.all_eq_true.1 hnd o hmem
    rw [e] at this
    cases this
  refine wpIn_region_any hm (wpAnyIn_of_quiet (C := fun w' => ∃ W : OldW w0, w' = W.w') (Q := fun a' => ∀ W : OldW w0, Q .normal a' W.w') hnd' (fun _ w' ⟨W, e⟩ h => e ▸ h W) _ _ _ _ ⟨⟨_, h0.drew⟩, rfl⟩ ?_)
  have := wpAnyQ_lex (P := P) (ops := os.toArray) (C := fun w' => ∃ W : OldW w0, w' = W.w') (md := .any) hB.1 os 0 (Array.replicate os.length false) a (by simp) (by simpa using hB.2) h
  simpa using this
end

theorem keepsOthers_old {w w' : World} (h : Old w w') : KeepsOthers w w' := ⟨h.size, fun k _ hk _ => (h.block k (Array.getElem?_eq_some_iff.1 hk).1).trans hk⟩
theorem keepsOthers_row {w w' : World} {base e size : Nat} {v : Value} {k : Nat} {xs : List Value} (h : w.ownsRow base e size v k xs) (hg : w.grownBy w' v.ownBlock) : KeepsOthers w w' :=
  KeepsOthers.of_grownBy hg fun j o e ho => by
    rcases h.2 with ⟨rfl, _⟩ | ⟨g, cap, cur, rfl, _, hgb, _⟩
    · cases e
    · simp [Value.ownBlock] at e
      subst e
      rw [hgb] at ho
      cases ho
      rfl
theorem wpListIn_append_int {F : Fence} {n : Nat} {P : Program} {w0 w : World} {ops : Array Oper} {rest : List Oper} {o : Oper} {a : Act} {Q : Exit → Act → World → Prop}
    (hgd : o.guard = none) (s x : Operand) (T : TypeId) (ho : o.op = .call { callee := .builtin .append, args := #[s, x], argTypes := #[T, T] })
    (E : TypeId) (ht : P.underlying T = some (.slice E)) (hinfo : (P.info? E).map (fun i => (i.zero, i.size, i.bytes)) = some (some (.int .i64 0), 1, 8))
    (v : Value) (l : List Int) (hs : a.eval s = v) (hown : OwnI E w0 w v l) (g : Nat) (y : Int) (hx : a.eval x = .slice (some ⟨g, 0, none⟩) 1 1) (hc : w.cell? ⟨g, 0, none⟩ = some (.int .i64 y))
    (hbytes : (l.length + 1) * 8 ≤ 140737488355328) (hbase : w0.heap.size ≤ w.heap.size)
    (h : ∀ v' w', OwnI E w0 w' v' (l ++ [y]) → w.grownBy w' v.ownBlock → wpListIn F n P ops Q rest (a.put o.dst v') w') : wpListIn F n P ops Q (o :: rest) a w := by
  obtain ⟨i, hi, hz0, hz1, hz2⟩ := info_parts hinfo
  refine wpListIn_append_own w hgd s x T ho w0.heap.size E i (.int .i64 0) 1 8 ht hi hz0 hz1 hz2 rfl (by decide) v l.length (l.map (.int .i64)) hs hown ⟨g, 0, none⟩ 1 1 [.int .i64 y] hx rfl ?_ (by simp [Value.oneCell'])
    (by simp [maxLen]; omega) hbytes hbase (fun v' w' k1 k2 _ => h v' w' (by unfold OwnI; rw [List.map_append, List.length_append]; exact k1) k2)
  intro j u hu
  obtain rfl : j = 0 := by
    have := (List.getElem?_eq_some_iff.1 hu).1
    simpa using this
  simp at hu
  subst hu
  rw [Addr.add_lit]
  exact hc
theorem box3 {w w1 : World} {o1 o2 : Obj} {v : Value} {T : TypeId} (h : Old (((w.alloc o1).alloc o2).alloc (.cells #[v] T)) w1) : Boxed w1 (w.heap.size + 1 + 1) T v := by
  have := Boxed.new ((w.alloc o1).alloc o2) T v
  have e : ((w.alloc o1).alloc o2).heap.size = w.heap.size + 1 + 1 := by simp
  rw [e] at this
  exact (h.block _ (by simp)).trans this
theorem Ints.one' (w : World) (E : TypeId) (x : Int) {n : Nat} (hn : n = w.heap.size) : Ints (w.alloc (.cells #[.int .i64 x] E)) (.slice (some ⟨n, 0, none⟩) 1 1) [x] := by
  subst hn; exact Ints.one w E x
end Go.Proofs.YtpifkinlaicliaaGreatDoor
/-
  MORE OF OWNED ROWS, over no program: make of integers; a store; what is kept while one block is written.
-/

namespace Go.Proofs.YtpifkinlaicliaaGreatDoor
open Go.RowKit

/-- all blocks that w had, but block g, lie as they lay -/
def OldBut (g : Nat) (w W : World) : Prop := KeptBut w.heap.size g w W
theorem OldBut.refl (g : Nat) (w : World) : OldBut g w w := KeptBut.refl _ _ _
theorem OldBut.alloc {g : Nat} {w W : World} (h : OldBut g w W) (o : Obj) : OldBut g w (W.alloc o) := h.trans (KeptBut.of_old ((Old.refl W).alloc o) h.size)
theorem OldBut.drew {g : Nat} {w W : World} (h : OldBut g w W) : OldBut g w W.drew := h.trans (KeptBut.of_old (Old.refl W).drew h.size)
theorem OldBut.setCell {g : Nat} {w W : World} (h : OldBut g w W) (o : Nat) (v : Value) : OldBut g w (W.setCell ⟨g, o, none⟩ v) := h.trans (KeptBut.setCell _ _ _)
theorem OldBut.trans {g : Nat} {x y z : World} (h : OldBut g x y) (k : OldBut g y z) : OldBut g x z :=
  KeptBut.trans h ⟨k.os, k.tape, k.output, k.size, fun i hi hb => k.block i (Nat.lt_of_lt_of_le hi h.size) hb⟩
theorem OldBut.old {g : Nat} {x y z : World} (h : OldBut g x y) (k : Old y z) : OldBut g x z := h.trans (KeptBut.of_old k (Nat.le_refl _))
theorem OldBut.cell {g : Nat} {w W : World} (h : OldBut g w W) {p : Addr} {v : Value} (hc : w.cell? p = some v) (hg : p.block ≠ g) : W.cell? p = some v :=
  (KeptBut.cell h (World.block_lt_of_cell? w p hc) hg).trans hc
theorem OldBut.base {g : Nat} {w0 w W : World} (h : OldBut g w W) (ho : Old w0 w) (hg : w0.heap.size ≤ g) : Old w0 W := KeptBut.old h ho ho.size hg
theorem laterBut {g : Nat} {w : World} {p : Addr} {v : Value} (hc : w.cell? p = some v) (hg : p.block ≠ g) : ∀ W, OldBut g w W → W.cell? p = some v := fun _ h => h.cell hc hg
/-- an owned row is owned from any lower place on -/
theorem OwnI.lower {E : TypeId} {w0 w1 w : World} {v : Value} {l : List Int} (h : OwnI E w1 w v l) (hs : w0.heap.size ≤ w1.heap.size) : OwnI E w0 w v l := by
  obtain ⟨h1, h2⟩ := h
  refine ⟨h1, ?_⟩
  rcases h2 with h2 | ⟨g, cap, cur, e, hb, r⟩
  · exact .inl h2
  · exact .inr ⟨g, cap, cur, e, Nat.le_trans hs hb, r⟩
theorem OwnI.but {E : TypeId} {w0 w w' : World} {a : Option Addr} {n cap : Nat} {l : List Int} {g : Nat} (h : OwnI E w0 w (.slice a n cap) l) (o : OldBut g w w') (hg : ∀ x, a = some x → x.block ≠ g) : OwnI E w0 w' (.slice a n cap) l := by
  obtain ⟨h1, h2⟩ := h
  refine ⟨h1, ?_⟩
  rcases h2 with h2 | ⟨g', cap', cur, e, hb, hc, r⟩
  · exact .inl h2
  · refine .inr ⟨g', cap', cur, e, hb, ?_, r⟩
    simp at e
    rw [o.block g' (Array.getElem?_eq_some_iff.1 hc).1 (hg _ e.1)]
    exact hc
theorem OwnI.setCell_other {E : TypeId} {w0 w : World} {a : Option Addr} {n cap : Nat} {l : List Int} {g o : Nat} (h : OwnI E w0 w (.slice a n cap) l) (v : Value) (hg : ∀ x, a = some x → x.block ≠ g) : OwnI E w0 (w.setCell ⟨g, o, none⟩ v) (.slice a n cap) l :=
  h.but ((OldBut.refl g w).setCell o v) hg
/-- a returned slice of integers in new memory, and a number -/
def RetOwnE (E : TypeId) (w w' : World) (l : List Int) (n : Int) (e : Ending) : Prop := ∃ v, e = .returned (.tuple #[v, .int .i64 n]) ∧ OwnI E w w' v l
section
variable {P : Program} {ops : Array Oper} {rest : List Oper} {o : Oper} {a : Act} {Q : Exit → Act → World → Prop}
theorem wpList_make_ints {w0 w : World} (hg : o.guard = none) (l c : Operand) (T : TypeId) (hop : o.op = Op.makeSlice T l c) (E : TypeId) (ht : P.underlying T = some (.slice E))
    (hinfo : (P.info? E).map (fun i => (i.zero, i.size, i.bytes)) = some (some (.int .i64 0), 1, 8)) (n : Nat) (hl : a.eval l = .int .i64 n) (hc : a.eval c = .int .i64 n) (hn : n ≤ 1073741824) (hold : Old w0 w)
    (hK : ∀ w', OwnI E w0 w' (.slice (some ⟨w.heap.size, 0, none⟩) n n) (List.replicate n 0) → Old w w' → w.heap.size < w'.heap.size → wpList P ops Q rest (a.put o.dst (.slice (some ⟨w.heap.size, 0, none⟩) n n)) w') : wpList P ops Q (o :: rest) a w := by
  obtain ⟨i, hi, hz0, hz1, hz2⟩ := info_parts hinfo
  refine wpList_make_full w hg l c T hop w0.heap.size E i (.int .i64 0) 1 ht hi hz0 hz1 .i64 .i64 n n n hl hc rfl rfl (by rw [hz2]; omega) (by simp [maxLen]; omega) hold.size fun w' h1 h2 => ?_
  refine hK w' ?_ ⟨h2.os, h2.tape, h2.output, h2.size, fun k hk => h2.block k hk (by simp)⟩ (h1.lt _ rfl).2
  unfold OwnI
  rw [List.length_replicate, List.map_replicate]
  simpa [toList_madeCells_one, Value.cells] using h1
end
end Go.Proofs.YtpifkinlaicliaaGreatDoor
