/-
  LISTS IN ORDER, whatever lies in them: plain, over no program.
-/
import Derived.WalkKit
import Derived.WalkSpells
import Derived.WalkLawsBesides
import Derived.Lib.Hide
import Derived.BigQuiet
namespace Go.Proofs.YtohngjkedhpikaaGreatDoor

variable {α : Type} {c : α → α → Int}
/-- laid into what is in order, from its end on (the list is told from its end) -/
def insA (c : α → α → Int) : List α → α → List α
  | [], i => [i]
  | y :: r, i => if 0 < c y i then y :: insA c r i else i :: y :: r
def srtStep (c : α → α → Int) (l : List α) (x : α) : List α := (insA c l.reverse x).reverse
/-- in order: one is put in behind the other -/
def srt (c : α → α → Int) (l : List α) : List α := l.foldl (srtStep c) []
structure OrdA (c : α → α → Int) : Prop where
  anti : ∀ i j, c j i = -c i j
  trans : ∀ i j k, c i j ≤ 0 → c j k ≤ 0 → c i k ≤ 0
theorem srt_nil : srt c [] = [] := rfl
theorem srt_snoc (l : List α) (x : α) : srt c (l ++ [x]) = srtStep c (srt c l) x := by simp [srt]
theorem insA_perm (r : List α) (i : α) : (insA c r i).Perm (i :: r) := by
  induction r with
  | nil => exact List.Perm.refl _
  | cons y r ih =>
    unfold insA
    split
    · exact (ih.cons y).trans (List.Perm.swap i y r)
    · exact List.Perm.refl _
theorem srtStep_perm (l : List α) (x : α) : (srtStep c l x).Perm (l ++ [x]) :=
  (List.reverse_perm _).trans ((insA_perm _ _).trans ((List.Perm.cons x (List.reverse_perm l)).trans (List.perm_append_singleton x l).symm))
theorem snocI {p : List α → Prop} (h0 : p []) (h1 : ∀ l x, p l → p (l ++ [x])) (l : List α) : p l := by
  have : ∀ n (l : List α), l.length = n → p l := by
    intro n
    induction n with
    | zero => intro l hl; rw [List.eq_nil_of_length_eq_zero hl]; exact h0
    | succ n ih =>
      intro l hl
      have hne : l ≠ [] := by intro e; rw [e] at hl; simp at hl
      rw [← List.dropLast_concat_getLast hne]
      exact h1 _ _ (ih _ (by rw [List.length_dropLast]; omega))
  exact this _ l rfl
theorem srt_perm (l : List α) : (srt c l).Perm l := by
  induction l using snocI with
  | h0 => exact List.Perm.refl _
  | h1 l x ih => rw [srt_snoc]; exact (srtStep_perm _ _).trans (ih.append_right _)
theorem srt_length (l : List α) : (srt c l).length = l.length := (srt_perm l).length_eq
theorem srt_mem {l : List α} {x : α} : x ∈ srt c l ↔ x ∈ l := (srt_perm l).mem_iff
theorem insA_sorted (h : OrdA c) {r : List α} {i : α} (hr : r.Pairwise fun a b => c b a ≤ 0) : (insA c r i).Pairwise fun a b => c b a ≤ 0 := by
  induction r with
  | nil => simp [insA]
  | cons y r ih =>
    rw [List.pairwise_cons] at hr
    unfold insA
    split
    · rename_i hy
      rw [List.pairwise_cons]
      refine ⟨fun b hb => ?_, ih hr.2⟩
      rw [(insA_perm r i).mem_iff, List.mem_cons] at hb
      rcases hb with rfl | hb
      · have := h.anti y b; omega
      · exact hr.1 b hb
    · rename_i hy
      rw [List.pairwise_cons, List.pairwise_cons]
      refine ⟨fun b hb => ?_, hr⟩
      rw [List.mem_cons] at hb
      rcases hb with rfl | hb
      · omega
      · exact h.trans b y i (hr.1 b hb) (by omega)
theorem srt_sorted (h : OrdA c) (l : List α) : (srt c l).Pairwise fun a b => c a b ≤ 0 := by
  induction l using snocI with
  | h0 => simp [srt]
  | h1 l x ih =>
    rw [srt_snoc]
    unfold srtStep
    rw [List.pairwise_reverse]
    refine insA_sorted h ?_
    rw [List.pairwise_reverse]
    exact ih
theorem srt_unique (h : OrdA c) {m l : List α} (hd : ∀ i j, i ∈ m → j ∈ m → c i j = 0 → i = j) (hp : l.Perm m) (hs : l.Pairwise fun a b => c a b ≤ 0) : l = srt c m := by
  refine List.Perm.eq_of_pairwise (le := fun a b => c a b ≤ 0) (fun a b ha hb h1 h2 => ?_) hs (srt_sorted h m) (hp.trans (srt_perm m).symm)
  rw [hp.mem_iff] at ha
  rw [srt_mem] at hb
  have := h.anti a b
  exact hd a b ha hb (by omega)
theorem srt_nodup {l : List α} (h : l.Nodup) : (srt c l).Nodup := (srt_perm l).nodup_iff.2 h
/-- each behind all ahead of it, strictly -/
theorem srt_strict (h : OrdA c) {l : List α} (hn : l.Nodup) (hd : ∀ i j, i ∈ l → j ∈ l → c i j = 0 → i = j) : (srt c l).Pairwise fun a b => c a b < 0 := by
  rw [List.pairwise_iff_getElem]
  intro i j hi hj hij
  have h1 := List.pairwise_iff_getElem.1 (srt_sorted h l) i j hi hj hij
  have h2 := List.pairwise_iff_getElem.1 (srt_nodup (c := c) hn) i j hi hj hij
  have h3 : ¬ c (srt c l)[i] (srt c l)[j] = 0 := fun e => h2 (hd _ _ (srt_mem.1 (List.getElem_mem hi)) (srt_mem.1 (List.getElem_mem hj)) e)
  omega
/-- what is told of by another comparison of what stands for it -/
theorem insA_map {β : Type} {d : β → β → Int} (f : α → β) : ∀ (r : List α) (i : α), (∀ y ∈ r, d (f y) (f i) = c y i) → (insA c r i).map f = insA d (r.map f) (f i)
  | [], _, _ => rfl
  | y :: r, i, h => by
    rw [List.map_cons]
    unfold insA
    rw [h y (by simp)]
    split
    · rw [List.map_cons, insA_map f r i fun z hz => h z (by simp [hz])]
    · rfl
theorem srt_map {β : Type} {d : β → β → Int} (f : α → β) (l : List α) (h : ∀ x ∈ l, ∀ y ∈ l, d (f x) (f y) = c x y) : (srt c l).map f = srt d (l.map f) := by
  induction l using snocI with
  | h0 => rfl
  | h1 l x ih =>
    rw [srt_snoc, List.map_append, List.map_cons, List.map_nil, srt_snoc]
    unfold srtStep
    rw [List.map_reverse, insA_map (d := d) f _ _ fun y hy => h y (by
      rw [List.mem_reverse, srt_mem] at hy; simp [hy]) x (by simp), List.map_reverse, ih fun x hx y hy => h x (by simp [hx]) y (by simp [hy])]
end Go.Proofs.YtohngjkedhpikaaGreatDoor
/-
  GROUND OF THE WALKS, over no program: worlds that only grow ('Old'), slices that read as lists, owned rows that become such slices, drawn regions whose callees make memory.
-/





namespace Go.Proofs.YtohngjkedhpikaaGreatDoor
open Go.RowKit

/-- what lay there when w was, lies there still -/
def Old (w W : World) : Prop := Below w.heap.size w W
theorem Old.refl (w : World) : Old w w := Below.refl _ _
theorem Old.alloc {w W : World} (h : Old w W) (o : Obj) : Old w (W.alloc o) := Below.alloc h h.size o
theorem Old.drew {w W : World} (h : Old w W) : Old w W.drew := Below.drew h
theorem Old.setCell {w W : World} (h : Old w W) {p : Addr} (hp : w.heap.size ≤ p.block) (v : Value) : Old w (W.setCell p v) := Below.setCell h hp v
theorem Old.trans {w W V : World} (h : Old w W) (k : Old W V) : Old w V := Below.trans h (Below.mono k h.size)
theorem Old.size {w W : World} (h : Old w W) : w.heap.size ≤ W.heap.size := Below.size h
theorem Old.cell {w W : World} (h : Old w W) {p : Addr} {v : Value} (hc : w.cell? p = some v) : W.cell? p = some v :=
  (Below.cell h (World.block_lt_of_cell? w p hc)).trans hc
theorem Old.grown {w a b : World} {row : Option Nat} (h : Old w a) (hg : a.grownBy b row) (hr : ∀ k, row = some k → w.heap.size ≤ k) : Old w b :=
  Below.grown h hg h.size hr
theorem Old.of_below {B : Nat} {w W : World} (h : Below B w W) (hB : w.heap.size ≤ B) : Old w W := Below.mono h hB
/-- a cell that is, is in every later world -/
theorem later {w : World} {p : Addr} {v : Value} (hc : w.cell? p = some v) : ∀ W, Old w W → W.cell? p = some v := fun _ h => h.cell hc

/-- a world later than w -/
structure OldW (w : World) where
  w' : World
  old : Old w w'
instance (w : World) : Nonempty (OldW w) := ⟨⟨w, Old.refl w⟩⟩

theorem Calls.old {P : Program} {f : FuncId} {args : Array Value} {w0 w : World} {R : Ending → World → Prop} (h0 : Old w0 w)
    (h : Calls P f args w (fun e w' => R e w' ∧ Old w w')) : Calls P f args w (fun e w' => R e w' ∧ Old w0 w') :=
  h.mono fun _ _ ⟨a, b⟩ => ⟨a, h0.trans b⟩

/-- a drawn region that reads, and calls what only adds to memory: one walk, in the text's order -/
theorem wp_region_old {P : Program} {id : Nat} {Q : Exit → Act → World → Prop} {a : Act} {w0 w : World} {l : List Oper} (h0 : Old w0 w) (hm : P.follows .mixedOrders = true) (hB : Region.lexB .any l.toArray = true)
    (h : wpQuiet P l.toArray (fun w' => ∃ W : OldW w0, w' = W.w') (fun a' => ∀ W : OldW w0, Q .normal a' W.w') l a) : (Code.region id l.toArray true).wp P Q a w :=
  wp_region_quiet (C := fun w' => ∃ W : OldW w0, w' = W.w') hm hB ⟨⟨_, h0.drew⟩, rfl⟩ (by
    have e : (fun a' => ∀ W : OldW w0, Q .normal a' W.w') = (fun a' => ∀ w', (∃ W : OldW w0, w' = W.w') → Q .normal a' w') := by
      funext a'; exact propext ⟨fun h w' ⟨W, e⟩ => e ▸ h W, fun h W => h _ ⟨W, rfl⟩⟩
    rw [e] at h
    simpa using h)
theorem Calls.in_old {P : Program} {f : FuncId} {args : Array Value} {w0 : World} {W : OldW w0} {v : Value}
    (h : Calls P f args W.w' fun e w' => e = .returned v ∧ Old W.w' w') : Calls P f args W.w' fun e w'' => e = .returned v ∧ ∃ V : OldW w0, w'' = V.w' :=
  h.mono fun _ _ ⟨he, ho⟩ => ⟨he, ⟨_, W.old.trans ho⟩, rfl⟩

theorem all_succ {p : Nat → Prop} {k : Nat} (h : ∀ i, i < k → p i) (hk : p k) : ∀ i, i < k + 1 → p i := fun i hi => by
  by_cases e : i = k
  · exact e ▸ hk
  · exact h i (by omega)
theorem ret_i64 {a b : Int} (h : a = b) : Ending.returned (.int .i64 a) = .returned (.int .i64 b) := by rw [h]
theorem ret_bool {a b : Bool} (h : a = b) : Ending.returned (.bool a) = .returned (.bool b) := by rw [h]
theorem ret_two {a b c d : Value} (h : a = c) (k : b = d) : Ending.returned (.tuple #[a, b]) = .returned (.tuple #[c, d]) := by rw [h, k]

/-! ### slices that read as lists -/

/-- an integer list's element -/
def ix (l : List Int) (i : Nat) : Int := l.getD i 0
/-- v: a slice of the integers l, in w and later -/
def Ints (w : World) (v : Value) (l : List Int) : Prop :=
  ∃ a cap b off, v = .slice a l.length cap ∧ l.length ≤ cap ∧ cap ≤ 9223372036854775807 ∧ (0 < l.length → a = some ⟨b, off, none⟩) ∧ ∀ i, i < l.length → ∀ W, Old w W → W.cell? ⟨b, off + i, none⟩ = some (.int .i64 (ix l i))
theorem Ints.old {w w' : World} {v : Value} {l : List Int} (h : Ints w v l) (o : Old w w') : Ints w' v l := by
  obtain ⟨a, cap, b, off, e, h1, h2, h3, h4⟩ := h
  exact ⟨a, cap, b, off, e, h1, h2, h3, fun i hi W hW => h4 i hi W (o.trans hW)⟩
theorem Ints.nil (w : World) : Ints w (.slice none 0 0) [] := ⟨none, 0, 0, 0, rfl, by simp, by simp, by simp, by simp⟩
theorem Ints.mk {w : World} {b off cap : Nat} {l : List Int} (h1 : l.length ≤ cap) (h2 : cap ≤ 9223372036854775807) (h : ∀ i, i < l.length → w.cell? ⟨b, off + i, none⟩ = some (.int .i64 (ix l i))) :
    Ints w (.slice (some ⟨b, off, none⟩) l.length cap) l := ⟨_, cap, b, off, rfl, h1, h2, fun _ => rfl, fun i hi => later (h i hi)⟩
theorem Ints.of_row {w : World} {base e : Nat} {v : Value} {l : List Int} {n : Nat} (hn : n = l.length) (h : w.ownsRow base e 1 v n (l.map (.int .i64))) : Ints w v l := by
  subst hn
  obtain ⟨hl, h⟩ := h
  rcases h with ⟨rfl, h0⟩ | ⟨g, cap, cur, rfl, hb, hg, hnc, hcm, hcs, htake⟩
  · have : l = [] := List.eq_nil_of_length_eq_zero h0
    subst this; exact Ints.nil w
  · refine Ints.mk hnc (by simpa [maxLen] using hcm) fun i hi => ?_
    have hown : w.ownsRow base e 1 (.slice (some ⟨g, 0, none⟩) l.length cap) l.length (l.map (.int .i64)) := ⟨hl, .inr ⟨g, cap, cur, rfl, hb, hg, hnc, hcm, hcs, htake⟩⟩
    rw [Nat.zero_add, hown.cellAt i (by omega)]
    simp [ix, List.getD, hi]

theorem Ints.one (w : World) (E : TypeId) (x : Int) : Ints (w.alloc (.cells #[.int .i64 x] E)) (.slice (some ⟨w.heap.size, 0, none⟩) 1 1) [x] :=
  Ints.mk (l := [x]) (cap := 1) (by simp) (by simp) (fun i hi => by
    obtain rfl : i = 0 := by simpa using hi
    simp [go_sem, ix])
/-- the two numbers of a pair list's element -/
def p0 (t : List (Int × Int)) (i : Nat) : Int := (t.getD i (0, 0)).1
def p1 (t : List (Int × Int)) (i : Nat) : Int := (t.getD i (0, 0)).2
/-- v: a slice of pairs of integers -/
def Prs (w : World) (v : Value) (t : List (Int × Int)) : Prop :=
  ∃ a cap b off, v = .slice a t.length cap ∧ t.length ≤ cap ∧ cap ≤ 9223372036854775807 ∧ (0 < t.length → a = some ⟨b, off, none⟩) ∧
    (∀ i, i < t.length → ∀ W, Old w W → W.cell? ⟨b, off + i * 2, none⟩ = some (.int .i64 (p0 t i))) ∧
    (∀ i, i < t.length → ∀ W, Old w W → W.cell? ⟨b, off + i * 2 + 1, none⟩ = some (.int .i64 (p1 t i)))
theorem Prs.old {w w' : World} {v : Value} {t : List (Int × Int)} (h : Prs w v t) (o : Old w w') : Prs w' v t := by
  obtain ⟨a, cap, b, off, e, h1, h2, h3, h4, h5⟩ := h
  exact ⟨a, cap, b, off, e, h1, h2, h3, fun i hi W hW => h4 i hi W (o.trans hW), fun i hi W hW => h5 i hi W (o.trans hW)⟩
theorem Prs.nil (w : World) : Prs w (.slice none 0 0) [] := ⟨none, 0, 0, 0, rfl, by simp, by simp, by simp, by simp, by simp⟩
theorem Prs.mk {w : World} {b off cap : Nat} {t : List (Int × Int)} (h1 : t.length ≤ cap) (h2 : cap ≤ 9223372036854775807)
    (h : ∀ i, i < t.length → w.cell? ⟨b, off + i * 2, none⟩ = some (.int .i64 (p0 t i))) (k : ∀ i, i < t.length → w.cell? ⟨b, off + i * 2 + 1, none⟩ = some (.int .i64 (p1 t i))) :
    Prs w (.slice (some ⟨b, off, none⟩) t.length cap) t := ⟨_, cap, b, off, rfl, h1, h2, fun _ => rfl, fun i hi => later (h i hi), fun i hi => later (k i hi)⟩
/-- the cells of a list of pairs -/
def pcells (t : List (Int × Int)) : List Value := t.flatMap fun x => [.int .i64 x.1, .int .i64 x.2]
theorem pcells_length (t : List (Int × Int)) : (pcells t).length = t.length * 2 := by
  induction t with
  | nil => rfl
  | cons x t ih => simp only [pcells, List.flatMap_cons, List.length_append, List.length_cons, List.length_nil] at ih ⊢; omega
theorem pcells_append (t u : List (Int × Int)) : pcells (t ++ u) = pcells t ++ pcells u := by simp [pcells]
theorem pcells_even (t : List (Int × Int)) (i : Nat) (h : i < t.length) : (pcells t)[i * 2]? = some (.int .i64 (p0 t i)) := by
  induction t generalizing i with
  | nil => simp at h
  | cons x t ih =>
    cases i with
    | zero => simp [pcells, p0]
    | succ i =>
      have := ih i (by simpa using h)
      simp only [pcells, List.flatMap_cons, p0, List.getD_cons_succ] at this ⊢
      rw [show (i + 1) * 2 = i * 2 + 1 + 1 from by omega]
      simpa using this
theorem pcells_odd (t : List (Int × Int)) (i : Nat) (h : i < t.length) : (pcells t)[i * 2 + 1]? = some (.int .i64 (p1 t i)) := by
  induction t generalizing i with
  | nil => simp at h
  | cons x t ih =>
    cases i with
    | zero => simp [pcells, p1]
    | succ i =>
      have := ih i (by simpa using h)
      simp only [pcells, List.flatMap_cons, p1, List.getD_cons_succ] at this ⊢
      rw [show (i + 1) * 2 + 1 = i * 2 + 1 + 1 + 1 from by omega]
      simpa using this
theorem pcells_one (t : List (Int × Int)) : ∀ u ∈ pcells t, u.oneCell' = true := by
  intro u hu
  obtain ⟨x, _, hx⟩ := List.mem_flatMap.1 hu
  simp only [List.mem_cons, List.not_mem_nil, or_false] at hx
  rcases hx with rfl | rfl <;> rfl
theorem Prs.of_row {w : World} {base e : Nat} {v : Value} {t : List (Int × Int)} {n : Nat} (hn : n = t.length) (h : w.ownsRow base e 2 v n (pcells t)) : Prs w v t := by
  subst hn
  obtain ⟨hl, h⟩ := h
  rcases h with ⟨rfl, h0⟩ | ⟨g, cap, cur, rfl, hb, hg, hnc, hcm, hcs, htake⟩
  · have : t = [] := List.eq_nil_of_length_eq_zero h0
    subst this; exact Prs.nil w
  · have hown : w.ownsRow base e 2 (.slice (some ⟨g, 0, none⟩) t.length cap) t.length (pcells t) := ⟨hl, .inr ⟨g, cap, cur, rfl, hb, hg, hnc, hcm, hcs, htake⟩⟩
    refine Prs.mk hnc (by simpa [maxLen] using hcm) (fun i hi => ?_) (fun i hi => ?_)
    · rw [Nat.zero_add, hown.cellAt _ (by omega), pcells_even t i hi]
    · rw [Nat.zero_add, hown.cellAt _ (by omega), pcells_odd t i hi]
theorem Prs.cells {w : World} {b off : Nat} {t : List (Int × Int)}
    (h4 : ∀ i, i < t.length → ∀ W, Old w W → W.cell? ⟨b, off + i * 2, none⟩ = some (.int .i64 (p0 t i)))
    (h5 : ∀ i, i < t.length → ∀ W, Old w W → W.cell? ⟨b, off + i * 2 + 1, none⟩ = some (.int .i64 (p1 t i))) {W : World} (hW : Old w W) :
    ∀ j u, (pcells t)[j]? = some u → W.cell? ((⟨b, off, none⟩ : Addr).add j) = some u := by
  intro j u hu
  have hj : j < (pcells t).length := (List.getElem?_eq_some_iff.1 hu).1
  rw [pcells_length] at hj
  rw [Addr.add_lit]
  rcases Nat.mod_two_eq_zero_or_one j with h | h
  · obtain ⟨i, rfl⟩ : ∃ i, j = i * 2 := ⟨j / 2, by omega⟩
    rw [pcells_even t i (by omega)] at hu
    rw [h4 i (by omega) W hW, hu]
  · obtain ⟨i, rfl⟩ : ∃ i, j = i * 2 + 1 := ⟨j / 2, by omega⟩
    rw [pcells_odd t i (by omega)] at hu
    rw [← Nat.add_assoc, h5 i (by omega) W hW, hu]

/-! ### rows of the call's own, that grow by append -/

def OwnI (E : TypeId) (w0 w : World) (v : Value) (l : List Int) : Prop := w.ownsRow w0.heap.size E 1 v l.length (l.map (.int .i64))
def OwnP (E : TypeId) (w0 w : World) (v : Value) (t : List (Int × Int)) : Prop := w.ownsRow w0.heap.size E 2 v t.length (pcells t)
theorem OwnI.ints {E : TypeId} {w0 w : World} {v : Value} {l : List Int} (h : OwnI E w0 w v l) : Ints w v l := Ints.of_row rfl h
theorem OwnP.prs {E : TypeId} {w0 w : World} {v : Value} {t : List (Int × Int)} (h : OwnP E w0 w v t) : Prs w v t := Prs.of_row rfl h
theorem OwnI.nil (E : TypeId) (w0 w : World) : OwnI E w0 w (.slice none 0 0) [] := World.ownsRow_nil w _ E 1
theorem OwnP.nil (E : TypeId) (w0 w : World) : OwnP E w0 w (.slice none 0 0) [] := World.ownsRow_nil w _ E 2
theorem OwnI.kept {E : TypeId} {w0 w w' : World} {v : Value} {l : List Int} {row : Option Nat} (h : OwnI E w0 w v l) (hg : w.grownBy w' row) (hne : v.ownBlock = none ∨ v.ownBlock ≠ row) : OwnI E w0 w' v l := World.ownsRow.kept h hg hne
theorem OwnI.alloc {E : TypeId} {w0 w : World} {v : Value} {l : List Int} (h : OwnI E w0 w v l) (o : Obj) : OwnI E w0 (w.alloc o) v l := World.ownsRow.alloc h o
theorem OwnP.alloc {E : TypeId} {w0 w : World} {v : Value} {l : List (Int × Int)} (h : OwnP E w0 w v l) (o : Obj) : OwnP E w0 (w.alloc o) v l := World.ownsRow.alloc h o
/-- what a later world keeps: all blocks that were -/
theorem Old.grownBy {w w' : World} (h : Old w w') (row : Option Nat) : w.grownBy w' row := ⟨h.os, h.tape, h.output, h.size, fun k hk _ => h.block k hk⟩
theorem OwnI.old {E : TypeId} {w0 w w' : World} {v : Value} {l : List Int} (h : OwnI E w0 w v l) (o : Old w w') : OwnI E w0 w' v l := by
  have hg := Old.grownBy o none
  exact World.ownsRow.kept h hg (by cases hv : v.ownBlock <;> simp)
theorem OwnP.old {E : TypeId} {w0 w w' : World} {v : Value} {l : List (Int × Int)} (h : OwnP E w0 w v l) (o : Old w w') : OwnP E w0 w' v l := by
  have hg := Old.grownBy o none
  exact World.ownsRow.kept h hg (by cases hv : v.ownBlock <;> simp)
theorem ownsRow_form {w : World} {base : Nat} {e size : Nat} {v : Value} {n : Nat} {xs : List Value} (h : w.ownsRow base e size v n xs) : ∃ a cap, v = .slice a n cap ∧ n ≤ cap ∧ cap ≤ 9223372036854775807 := by
  rcases h.2 with ⟨rfl, rfl⟩ | ⟨g, cap, cur, rfl, _, _, h1, h2, _⟩
  · exact ⟨none, 0, rfl, Nat.le_refl _, by simp⟩
  · exact ⟨_, cap, rfl, h1, by simpa [maxLen] using h2⟩
theorem OwnI.len {E : TypeId} {w0 w : World} {a : Option Addr} {n cap : Nat} {l : List Int} (h : OwnI E w0 w (.slice a n cap) l) : n = l.length := by
  obtain ⟨a', cap', e, _⟩ := ownsRow_form h
  simp at e
  exact e.2.1
theorem OwnI.block {E : TypeId} {w0 w : World} {a : Option Addr} {n cap : Nat} {l : List Int} (h : OwnI E w0 w (.slice a n cap) l) (hl : 0 < l.length) : ∃ g, a = some ⟨g, 0, none⟩ ∧ w0.heap.size ≤ g ∧ g < w.heap.size := by
  obtain ⟨h1, ⟨h2, h0⟩ | ⟨g, c, cur, e, hb, hg, _⟩⟩ := h
  · omega
  · simp at e
    exact ⟨g, e.1, hb, (Array.getElem?_eq_some_iff.1 hg).1⟩
theorem OwnI.cell {E : TypeId} {w0 w : World} {g n cap : Nat} {l : List Int} (h : OwnI E w0 w (.slice (some ⟨g, 0, none⟩) n cap) l) {k : Nat} (hk : k < l.length) : w.cell? ⟨g, k, none⟩ = some (.int .i64 (ix l k)) := by
  obtain rfl := h.len
  rw [World.ownsRow.cellAt h k (by omega)]
  simp [ix, List.getD, hk]
theorem OwnI.frozen {E : TypeId} {w0 w : World} {g n cap : Nat} {l : List Int} (h : OwnI E w0 w (.slice (some ⟨g, 0, none⟩) n cap) l) (k : Nat) : w.frozen? ⟨g, k, none⟩ = false := by
  obtain rfl := h.len
  exact World.ownsRow.frozenAt h k
theorem OwnI.stored {E : TypeId} {w0 w : World} {g n cap : Nat} {l : List Int} (h : OwnI E w0 w (.slice (some ⟨g, 0, none⟩) n cap) l) (k : Nat) (x : Int) : OwnI E w0 (w.setCell ⟨g, k, none⟩ (.int .i64 x)) (.slice (some ⟨g, 0, none⟩) n cap) (l.set k x) := by
  obtain rfl := h.len
  have := (World.ownsRow.stored h k (.int .i64 x)).1
  unfold OwnI
  rw [List.length_set, List.map_set]
  exact this
theorem OwnI.drew {E : TypeId} {w0 w : World} {v : Value} {l : List Int} (h : OwnI E w0 w v l) : OwnI E w0 w.drew v l := h
theorem Ints.form {w : World} {v : Value} {l : List Int} (h : Ints w v l) : ∃ a cap, v = .slice a l.length cap ∧ l.length ≤ cap ∧ cap ≤ 9223372036854775807 := by
  obtain ⟨a, cap, b, off, e, h1, h2, _⟩ := h; exact ⟨a, cap, e, h1, h2⟩
theorem Prs.form {w : World} {v : Value} {l : List (Int × Int)} (h : Prs w v l) : ∃ a cap, v = .slice a l.length cap ∧ l.length ≤ cap ∧ cap ≤ 9223372036854775807 := by
  obtain ⟨a, cap, b, off, e, h1, h2, _⟩ := h; exact ⟨a, cap, e, h1, h2⟩

section
variable {P : Program} {ops : Array Oper} {rest : List Oper} {o : Oper} {a : Act} {Q : Exit → Act → World → Prop}
/-- append(v, x...) to an owned row, x whatever rows of cells -/
theorem wpList_append_any {w0 w : World} (hgd : o.guard = none) (s x : Operand) (T : TypeId) (ho : o.op = .call { callee := .builtin .append, args := #[s, x], argTypes := #[T, T] })
    (E : TypeId) (ht : P.underlying T = some (.slice E)) (z : Value) (size bytes : Nat) (hinfo : (P.info? E).map (fun i => (i.zero, i.size, i.bytes)) = some (some z, size, bytes)) (hzs : z.cells.size = size) (hsz : 0 < size)
    (v : Value) (n : Nat) (xs : List Value) (hs : a.eval s = v) (hown : w.ownsRow w0.heap.size E size v n xs) (ao : Option Addr) (m c : Nat) (news : List Value) (hx : a.eval x = .slice ao m c) (hl : news.length = m * size)
    (ad : Addr) (hao : 0 < m → ao = some ad) (hnews : ∀ j u, news[j]? = some u → w.cell? (ad.add j) = some u) (h1 : ∀ u ∈ news, u.oneCell' = true)
    (h63 : n + m ≤ 9223372036854775807) (hbytes : (n + m) * bytes ≤ 140737488355328) (hold : Old w0 w)
    (h : ∀ v' w', w'.ownsRow w0.heap.size E size v' (n + m) (xs ++ news) → Old w0 w' → w.grownBy w' v.ownBlock → wpList P ops Q rest (a.put o.dst v') w') : wpList P ops Q (o :: rest) a w := by
  obtain ⟨i, hi, hz0, hz1, hz2⟩ := info_parts hinfo
  have old' : ∀ w', w.grownBy w' v.ownBlock → Old w0 w' := fun w' hg => hold.grown hg fun k hk => (hown.lt k hk).1
  have key : ∀ ad', a.eval x = .slice (some ad') m c → (∀ j u, news[j]? = some u → w.cell? (ad'.add j) = some u) → wpList P ops Q (o :: rest) a w := fun ad' hx' hn' =>
    wpList_append_own w hgd s x T ho w0.heap.size E i z size bytes ht hi hz0 hz1 hz2 hzs hsz v n xs hs hown ad' m c news hx' hl hn' h1 (by simpa [maxLen] using h63) hbytes hold.size
      (fun v' w' a1 a2 _ => h v' w' a1 (old' w' a2) a2)
  by_cases hm : 0 < m
  · exact key ad (by rw [hx, hao hm]) hnews
  · obtain rfl : m = 0 := by omega
    have hnil : news = [] := List.eq_nil_of_length_eq_zero (by simpa using hl)
    cases ao with
    | some ad' => exact key ad' hx (by subst hnil; simp)
    | none =>
      subst hnil
      refine wpList_plain hgd fun K hK => ?_
      have hrun : (Builtin.append_ #[T, T] o.type #[v, .slice none 0 c]).run P w = .ok v w := by
        rcases hown.2 with ⟨rfl, rfl⟩ | ⟨g, cap, cur, rfl, hbg, hg, hnc, hcm, hcs, htake⟩
        · simp [Builtin.append_, run_underlying ht, sizeOf, typeInfo, hi, Builtin.lenOf, Builtin.firstCells]
        · simp [Builtin.append_, run_underlying ht, sizeOf, typeInfo, hi, Builtin.lenOf, Builtin.firstCells, hnc, storeCells]
      unfold Oper.wp
      simp [execOp, ho, resolve, invoke, builtin, hs, hx, hrun, Result.andThen]
      exact hK _ _ (h v w (by simpa using hown) hold (World.grownBy.refl _ _))
theorem ints_one (l : List Int) : ∀ u ∈ l.map (Value.int .i64), u.oneCell' = true := ints_oneCell .i64 l
theorem Ints.cells {w : World} {b off : Nat} {l : List Int} (h4 : ∀ i, i < l.length → ∀ W, Old w W → W.cell? ⟨b, off + i, none⟩ = some (.int .i64 (ix l i))) {W : World} (hW : Old w W) :
    ∀ j u, (l.map (Value.int .i64))[j]? = some u → W.cell? ((⟨b, off, none⟩ : Addr).add j) = some u := by
  intro j u hu
  have hj : j < l.length := by simpa using (List.getElem?_eq_some_iff.1 hu).1
  rw [Addr.add_lit, h4 j hj W hW, ← hu]
  simp [ix, List.getD, hj]
theorem wpList_append_ints {w0 w : World} (hgd : o.guard = none) (s x : Operand) (T : TypeId) (ho : o.op = .call { callee := .builtin .append, args := #[s, x], argTypes := #[T, T] })
    (E : TypeId) (ht : P.underlying T = some (.slice E)) (hinfo : (P.info? E).map (fun i => (i.zero, i.size, i.bytes)) = some (some (.int .i64 0), 1, 8))
    (v : Value) (l u : List Int) (hs : a.eval s = v) (hown : OwnI E w0 w v l) (vx : Value) (hx : a.eval x = vx) (hu : Ints w vx u)
    (hbytes : (l.length + u.length) * 8 ≤ 140737488355328) (hold : Old w0 w)
    (h : ∀ v' w', OwnI E w0 w' v' (l ++ u) → Old w0 w' → w.grownBy w' v.ownBlock → wpList P ops Q rest (a.put o.dst v') w') : wpList P ops Q (o :: rest) a w := by
  obtain ⟨ao, cap, b, off, rfl, hn1, hn2, ha, ht0⟩ := hu
  exact wpList_append_any hgd s x T ho E ht (.int .i64 0) 1 8 hinfo rfl (by decide) v l.length (l.map (.int .i64)) hs hown ao u.length cap (u.map (.int .i64)) hx (by simp) ⟨b, off, none⟩ ha (Ints.cells ht0 (Old.refl w)) (ints_one u)
    (by omega) hbytes hold (fun v' w' k1 k2 k3 => h v' w' (by unfold OwnI; rw [List.map_append, List.length_append]; exact k1) k2 k3)
theorem wpList_append_prs {w0 w : World} (hgd : o.guard = none) (s x : Operand) (T : TypeId) (ho : o.op = .call { callee := .builtin .append, args := #[s, x], argTypes := #[T, T] })
    (E : TypeId) (ht : P.underlying T = some (.slice E)) (hinfo : (P.info? E).map (fun i => (i.zero, i.size, i.bytes)) = some (some (.agg #[.int .i64 0, .int .i64 0]), 2, 16))
    (v : Value) (l u : List (Int × Int)) (hs : a.eval s = v) (hown : OwnP E w0 w v l) (vx : Value) (hx : a.eval x = vx) (hu : Prs w vx u)
    (hbytes : (l.length + u.length) * 16 ≤ 140737488355328) (hold : Old w0 w)
    (h : ∀ v' w', OwnP E w0 w' v' (l ++ u) → Old w0 w' → w.grownBy w' v.ownBlock → wpList P ops Q rest (a.put o.dst v') w') : wpList P ops Q (o :: rest) a w := by
  obtain ⟨ao, cap, b, off, rfl, hn1, hn2, ha, ht0, ht1⟩ := hu
  exact wpList_append_any hgd s x T ho E ht (.agg #[.int .i64 0, .int .i64 0]) 2 16 hinfo rfl (by decide) v l.length (pcells l) hs hown ao u.length cap (pcells u) hx (pcells_length u) ⟨b, off, none⟩ ha (Prs.cells ht0 ht1 (Old.refl w)) (pcells_one u)
    (by omega) hbytes hold (fun v' w' k1 k2 k3 => h v' w' (by unfold OwnP; rw [pcells_append, List.length_append]; exact k1) k2 k3)
end
end Go.Proofs.YtohngjkedhpikaaGreatDoor
