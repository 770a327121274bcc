/-
  THE DOCUMENT's TABLE OF NAMES, MADE: New.
-/
import Derived.Test.YtpifkinlaicliaaGreatDoorZTextDigits
import Derived.Test.YtpifkinlaicliaaGreatDoorZTabN
import Derived.Test.YtpifkinlaicliaaGreatDoorZCollect
namespace Go.Proofs.YtpifkinlaicliaaGreatDoor
open Go.RowKit Go.Maps
attribute [local go_sem] Old.refl Old.alloc Old.drew Old.setCell OldW.old

/-- those that stand there have one -/
def onesN (l : List ByteArray) (q : ByteArray) : Option Nat := if findN l q = none then none else some 1
theorem onesN_no {l : List ByteArray} {q : ByteArray} (h : ¬ q ∈ l) : onesN l q = none := if_pos (findN_none.2 h)
theorem onesN_yes {l : List ByteArray} {q : ByteArray} (h : q ∈ l) : onesN l q = some 1 := if_neg (fun e => findN_none.1 e h)
theorem onesN_nil : onesN [] = fun _ => none := by funext q; exact onesN_no (by simp)
theorem onesN_snoc (l : List ByteArray) (n : ByteArray) : onesN (l ++ [n]) = fun q => if q = n then some 1 else onesN l q := by
  funext q
  by_cases h : q = n
  · subst h; rw [if_pos rfl]; exact onesN_yes (by simp)
  · rw [if_neg h]
    by_cases h2 : q ∈ l
    · rw [onesN_yes h2]; exact onesN_yes (by simp [h2])
    · rw [onesN_no h2]; exact onesN_no (by simp [h, h2])
/-- the document's table being made: the result's block, the table's, the map's; its rows -/
structure RTabO (w0 w : World) (r c b n : Nat) (u0 u1 : Value) (k0 k1 km : List ByteArray) : Prop where
  br : w0.heap.size ≤ r
  bc : w0.heap.size ≤ c
  bb : w0.heap.size ≤ b
  rc : r ≠ c
  rb : r ≠ b
  cb : c ≠ b
  ltr : r < w.heap.size
  ltc : c < w.heap.size
  fr : ∀ o, w.frozen? ⟨r, o, none⟩ = false
  fc : ∀ o, w.frozen? ⟨c, o, none⟩ = false
  r0 : w.cell? ⟨r, 0, none⟩ = some (.slice none 0 0)
  r1 : w.cell? ⟨r, 1, none⟩ = some (.slice none 0 0)
  c0 : w.cell? ⟨c, 0, none⟩ = some u0
  c1 : w.cell? ⟨c, 1, none⟩ = some u1
  s0 : OwnS txE 9 w0 w u0 k0
  s1 : OwnS txE 9 w0 w u1 k1
  mp : MapTO Tryz.prog 9 3 w b n (onesN km)
  x0 : ∀ g, u0.ownBlock = some g → g ≠ r ∧ g ≠ c ∧ g ≠ b
  x1 : ∀ g, u1.ownBlock = some g → g ≠ r ∧ g ≠ c ∧ g ≠ b
  ap : u0.ownBlock = none ∨ u0.ownBlock ≠ u1.ownBlock
theorem RTabO.kept {w0 w W : World} {r c b n : Nat} {u0 u1 : Value} {k0 k1 km : List ByteArray} (h : RTabO w0 w r c b n u0 u1 k0 k1 km) {row : Option Nat} (hg : w.grownBy W row) (hr : ∀ k, row = some k → k < w0.heap.size) : RTabO w0 W r c b n u0 u1 k0 k1 km := by
  have hne : ∀ g, w0.heap.size ≤ g → some g ≠ row := fun g hg e => by have := hr g e.symm; omega
  have hbr := hg.block r h.ltr (hne r h.br)
  have hbc := hg.block c h.ltc (hne c h.bc)
  refine ⟨h.br, h.bc, h.bb, h.rc, h.rb, h.cb, Nat.lt_of_lt_of_le h.ltr hg.size, Nat.lt_of_lt_of_le h.ltc hg.size, fun o => (frozen_block (p := ⟨r, o, none⟩) hbr).trans (h.fr o), fun o => (frozen_block (p := ⟨c, o, none⟩) hbc).trans (h.fc o),
    (World.cell?_of_block (a := ⟨r, 0, none⟩) hbr).trans h.r0, (World.cell?_of_block (a := ⟨r, 1, none⟩) hbr).trans h.r1, (World.cell?_of_block (a := ⟨c, 0, none⟩) hbc).trans h.c0, (World.cell?_of_block (a := ⟨c, 1, none⟩) hbc).trans h.c1, ?_, ?_, h.mp.kept hg (hne b h.bb), h.x0, h.x1, h.ap⟩
  · refine h.s0.kept hg ?_
    cases e : u0.ownBlock with
    | none => exact .inl rfl
    | some g => exact .inr (hne g (World.ownsRow.lt h.s0 g e).1)
  · refine h.s1.kept hg ?_
    cases e : u1.ownBlock with
    | none => exact .inl rfl
    | some g => exact .inr (hne g (World.ownsRow.lt h.s1 g e).1)
theorem RTabO.old {w0 w W : World} {r c b n : Nat} {u0 u1 : Value} {k0 k1 km : List ByteArray} (h : RTabO w0 w r c b n u0 u1 k0 k1 km) (o : Old w W) : RTabO w0 W r c b n u0 u1 k0 k1 km := h.kept (Old.grownBy o none) (fun _ e => by cases e)
/-- the map is written -/
theorem RTabO.putM {w0 w W : World} {r c b n m : Nat} {u0 u1 : Value} {k0 k1 km km' : List ByteArray} (h : RTabO w0 w r c b n u0 u1 k0 k1 km) (hg : w.grownBy W (some b)) (hm : MapTO Tryz.prog 9 3 W b m (onesN km')) : RTabO w0 W r c b m u0 u1 k0 k1 km' := by
  have hbr := hg.block r h.ltr (by intro e; exact h.rb (Option.some.inj e))
  have hbc := hg.block c h.ltc (by intro e; exact h.cb (Option.some.inj e))
  refine ⟨h.br, h.bc, h.bb, h.rc, h.rb, h.cb, Nat.lt_of_lt_of_le h.ltr hg.size, Nat.lt_of_lt_of_le h.ltc hg.size, fun o => (frozen_block (p := ⟨r, o, none⟩) hbr).trans (h.fr o), fun o => (frozen_block (p := ⟨c, o, none⟩) hbc).trans (h.fc o),
    (World.cell?_of_block (a := ⟨r, 0, none⟩) hbr).trans h.r0, (World.cell?_of_block (a := ⟨r, 1, none⟩) hbr).trans h.r1, (World.cell?_of_block (a := ⟨c, 0, none⟩) hbc).trans h.c0, (World.cell?_of_block (a := ⟨c, 1, none⟩) hbc).trans h.c1, ?_, ?_, hm, h.x0, h.x1, h.ap⟩
  · refine h.s0.kept hg ?_
    cases e : u0.ownBlock with
    | none => exact .inl rfl
    | some g => exact .inr (fun e2 => (h.x0 g e).2.2 (Option.some.inj e2))
  · refine h.s1.kept hg ?_
    cases e : u1.ownBlock with
    | none => exact .inl rfl
    | some g => exact .inr (fun e2 => (h.x1 g e).2.2 (Option.some.inj e2))
theorem grown_set (V : World) (c o : Nat) (x : Value) : V.grownBy (V.setCell ⟨c, o, none⟩ x) (some c) := ⟨rfl, rfl, rfl, (KeepsWalks.setCell V _ x).size, fun k _ hk => Below.heap_setCell _ _ _ k (fun e => hk (by rw [e]))⟩
/-- the first row is appended to -/
theorem RTabO.put0 {w0 w W : World} {r c b n g cap : Nat} {u0 u1 : Value} {k0 k1 km : List ByteArray} {s : ByteArray} (h : RTabO w0 w r c b n u0 u1 k0 k1 km) (hg : w.grownBy W u0.ownBlock)
    (ho : W.ownsRow w0.heap.size 9 1 (.slice (some ⟨g, 0, none⟩) (k0.length + 1) cap) (k0.length + 1) (txE.all k0 ++ [.string s])) (ha : u0.ownBlock = some g ∨ w.heap.size ≤ g) :
    RTabO w0 (W.setCell ⟨c, 0, none⟩ (.slice (some ⟨g, 0, none⟩) (k0.length + 1) cap)) r c b n (.slice (some ⟨g, 0, none⟩) (k0.length + 1) cap) u1 (k0 ++ [s]) k1 km := by
  have hne : ∀ x, (∀ g, u0.ownBlock = some g → g ≠ x) → some x ≠ u0.ownBlock := fun x hx e => hx x e.symm rfl
  have hbr := hg.block r h.ltr (hne r fun g e => (h.x0 g e).1)
  have hbc := hg.block c h.ltc (hne c fun g e => (h.x0 g e).2.1)
  have hsz := hg.size
  have hblt := h.mp.lt
  have gx : g ≠ r ∧ g ≠ c ∧ g ≠ b := by
    rcases ha with e | e
    · exact h.x0 g e
    · have := h.ltr; have := h.ltc; omega
  have g1 : u1.ownBlock ≠ some g := by
    intro e
    rcases ha with h' | h'
    · rcases h.ap with h'' | h''
      · rw [h'] at h''; cases h''
      · exact h'' (h'.trans e.symm)
    · have := (World.ownsRow.lt h.s1 g e).2; omega
  have kc := grown_set W c 0 (.slice (some ⟨g, 0, none⟩) (k0.length + 1) cap)
  have hc0 := (World.cell?_of_block (a := ⟨c, 0, none⟩) hbc).trans h.c0
  have hc1 := (World.cell?_of_block (a := ⟨c, 1, none⟩) hbc).trans h.c1
  have hr0 := (World.cell?_of_block (a := ⟨r, 0, none⟩) hbr).trans h.r0
  have hr1 := (World.cell?_of_block (a := ⟨r, 1, none⟩) hbr).trans h.r1
  have hl : (k0 ++ [s]).length = k0.length + 1 := by rw [List.length_append]; rfl
  refine ⟨h.br, h.bc, h.bb, h.rc, h.rb, h.cb, by simp; exact Nat.lt_of_lt_of_le h.ltr hsz, by simp; exact Nat.lt_of_lt_of_le h.ltc hsz, fun o => by rw [World.frozen?_setCell]; exact (frozen_block (p := ⟨r, o, none⟩) hbr).trans (h.fr o),
    fun o => by rw [World.frozen?_setCell]; exact (frozen_block (p := ⟨c, o, none⟩) hbc).trans (h.fc o), (World.cell?_setCell_other _ _ _ _ (by intro e; injection e with e; exact h.rc e.symm)).trans hr0, (World.cell?_setCell_other _ _ _ _ (by intro e; injection e with e; exact h.rc e.symm)).trans hr1,
    World.cell?_setCell_same _ _ _ hc0, (World.cell?_setCell_other _ _ _ _ (by simp)).trans hc1, ?_, ?_, ?_, fun g' e => ?_, h.x1, .inr fun e => g1 e.symm⟩
  · unfold OwnS
    rw [hl, Enc.all_append, Enc.all_one]
    exact World.ownsRow.kept ho kc (.inr (by simpa [Value.ownBlock] using gx.2.1))
  · refine (h.s1.kept hg ?_).kept kc ?_
    · rcases h.ap with h' | h'
      · cases e : u1.ownBlock with
        | none => exact .inl rfl
        | some g' => exact .inr (by rw [h']; simp)
      · exact .inr (Ne.symm h')
    · cases e : u1.ownBlock with
      | none => exact .inl rfl
      | some g' => exact .inr (fun e2 => (h.x1 g' e).2.1 (Option.some.inj e2))
  · exact (h.mp.kept hg (hne b fun g e => (h.x0 g e).2.2)).kept kc (by intro e; exact h.cb (Option.some.inj e).symm)
  · have e2 : g = g' := by simpa [Value.ownBlock] using e
    exact e2 ▸ gx
/-- the second row is appended to -/
theorem RTabO.put1 {w0 w W : World} {r c b n g cap : Nat} {u0 u1 : Value} {k0 k1 km : List ByteArray} {s : ByteArray} (h : RTabO w0 w r c b n u0 u1 k0 k1 km) (hg : w.grownBy W u1.ownBlock)
    (ho : W.ownsRow w0.heap.size 9 1 (.slice (some ⟨g, 0, none⟩) (k1.length + 1) cap) (k1.length + 1) (txE.all k1 ++ [.string s])) (ha : u1.ownBlock = some g ∨ w.heap.size ≤ g) :
    RTabO w0 (W.setCell ⟨c, 1, none⟩ (.slice (some ⟨g, 0, none⟩) (k1.length + 1) cap)) r c b n u0 (.slice (some ⟨g, 0, none⟩) (k1.length + 1) cap) k0 (k1 ++ [s]) km := by
  have hne : ∀ x, (∀ g, u1.ownBlock = some g → g ≠ x) → some x ≠ u1.ownBlock := fun x hx e => hx x e.symm rfl
  have hbr := hg.block r h.ltr (hne r fun g e => (h.x1 g e).1)
  have hbc := hg.block c h.ltc (hne c fun g e => (h.x1 g e).2.1)
  have hsz := hg.size
  have hblt := h.mp.lt
  have gx : g ≠ r ∧ g ≠ c ∧ g ≠ b := by
    rcases ha with e | e
    · exact h.x1 g e
    · have := h.ltr; have := h.ltc; omega
  have ap' : u0.ownBlock = none ∨ u0.ownBlock ≠ u1.ownBlock := h.ap
  have g1 : u0.ownBlock = none ∨ u0.ownBlock ≠ some g := by
    rcases ap' with h' | h'
    · exact .inl h'
    · refine .inr fun e => ?_
      rcases ha with h'' | h''
      · exact h' (e.trans h''.symm)
      · have := (World.ownsRow.lt h.s0 g e).2; omega
  have kc := grown_set W c 1 (.slice (some ⟨g, 0, none⟩) (k1.length + 1) cap)
  have hc0 := (World.cell?_of_block (a := ⟨c, 0, none⟩) hbc).trans h.c0
  have hc1 := (World.cell?_of_block (a := ⟨c, 1, none⟩) hbc).trans h.c1
  have hr0 := (World.cell?_of_block (a := ⟨r, 0, none⟩) hbr).trans h.r0
  have hr1 := (World.cell?_of_block (a := ⟨r, 1, none⟩) hbr).trans h.r1
  have hl : (k1 ++ [s]).length = k1.length + 1 := by rw [List.length_append]; rfl
  refine ⟨h.br, h.bc, h.bb, h.rc, h.rb, h.cb, by simp; exact Nat.lt_of_lt_of_le h.ltr hsz, by simp; exact Nat.lt_of_lt_of_le h.ltc hsz, fun o => by rw [World.frozen?_setCell]; exact (frozen_block (p := ⟨r, o, none⟩) hbr).trans (h.fr o),
    fun o => by rw [World.frozen?_setCell]; exact (frozen_block (p := ⟨c, o, none⟩) hbc).trans (h.fc o), (World.cell?_setCell_other _ _ _ _ (by intro e; injection e with e; exact h.rc e.symm)).trans hr0, (World.cell?_setCell_other _ _ _ _ (by intro e; injection e with e; exact h.rc e.symm)).trans hr1,
    (World.cell?_setCell_other _ _ _ _ (by simp)).trans hc0, World.cell?_setCell_same _ _ _ hc1, ?_, ?_, ?_, h.x0, fun g' e => ?_, ?_⟩
  · refine (h.s0.kept hg ap').kept kc ?_
    cases e : u0.ownBlock with
    | none => exact .inl rfl
    | some g' => exact .inr (fun e2 => (h.x0 g' e).2.1 (Option.some.inj e2))
  · unfold OwnS
    rw [hl, Enc.all_append, Enc.all_one]
    exact World.ownsRow.kept ho kc (.inr (by simpa [Value.ownBlock] using gx.2.1))
  · exact (h.mp.kept hg (hne b fun g e => (h.x1 g e).2.2)).kept kc (by intro e; exact h.cb (Option.some.inj e).symm)
  · have e2 : g = g' := by simpa [Value.ownBlock] using e
    exact e2 ▸ gx
  · exact g1
/-- the document's table, owned from w0 on -/
def ROwnT (w0 w : World) (v : Value) (l : List ByteArray) : Prop := ∃ u0 u1, v = .agg #[u0, u1] ∧ OwnS txE 9 w0 w u0 l ∧ OwnS txE 9 w0 w u1 (l.map nrm)
theorem ROwnT.kept {w0 w W : World} {v : Value} {l : List ByteArray} (h : ROwnT w0 w v l) {row : Option Nat} (hg : w.grownBy W row) (hr : ∀ k, row = some k → k < w0.heap.size) : ROwnT w0 W v l := by
  obtain ⟨u0, u1, e, h0, h1⟩ := h
  have hne : ∀ g, w0.heap.size ≤ g → some g ≠ row := fun g hg e => by have := hr g e.symm; omega
  refine ⟨u0, u1, e, h0.kept hg ?_, h1.kept hg ?_⟩
  · cases e : u0.ownBlock with
    | none => exact .inl rfl
    | some g => exact .inr (hne g (World.ownsRow.lt h0 g e).1)
  · cases e : u1.ownBlock with
    | none => exact .inl rfl
    | some g => exact .inr (hne g (World.ownsRow.lt h1 g e).1)
theorem ROwnT.tab {w0 w : World} {v : Value} {l : List ByteArray} (h : ROwnT w0 w v l) : RTabV w v l := by
  obtain ⟨u0, u1, e, h0, h1⟩ := h
  exact ⟨u0, u1, e, Txts.of_recs h0.recs, Txts.of_recs h1.recs⟩
def newL (l : List ByteArray) : List ByteArray := if (newR l).2 = 0 then l else []
/-- what New hands back -/
def RetRNew (w w' : World) (l : List ByteArray) (e : Ending) : Prop :=
  ∃ v, e = .returned (.tuple #[v, .int .i64 (newR l).1, .int .i64 (newR l).2]) ∧ ROwnT w w' v (newL l)
theorem newL_bad {l : List ByteArray} {x : Nat × Int} (h : newR l = x) (hx : ¬ x.2 = 0) : newL l = [] := if_neg (by rw [h]; exact hx)
theorem ROwnT.nil (w0 w : World) : ROwnT w0 w (.agg #[.slice none 0 0, .slice none 0 0]) [] := ⟨_, _, rfl, OwnS.nil _ _ _ _, OwnS.nil _ _ _ _⟩
set_option maxRecDepth 100000 in
set_option maxHeartbeats 3200000 in
theorem RNew_any (l : List ByteArray) (v : Value) (w : World) (hv : Txts w v l) :
    Calls Tryz.prog 7 #[v] w fun e w' => RetRNew w w' l e ∧ Old w w' := by
  by_cases hbig : 1000 < l.length
  · have hi : (1000 : Int) < l.length := by omega
    have Hr : Hid (newR l = (0, 2)) := Lib.hid (if_pos hbig)
    obtain ⟨a, cap, rfl, hc1, hc2⟩ := hv.form
    clear hv
    go_enter Tryz.func7, Tryz.ntmps7
    go_upto_region 2 with fail
    have ho : Old w (w.alloc (.cells #[.slice none 0 0, .slice none 0 0] 29)) := (Old.refl w).alloc _
    have c0 : (w.alloc (.cells #[.slice none 0 0, .slice none 0 0] 29)).cell? ⟨w.heap.size, 0, none⟩ = some (.slice none 0 0) := by simp [go_sem]
    have c1 : (w.alloc (.cells #[.slice none 0 0, .slice none 0 0] 29)).cell? ⟨w.heap.size, 1, none⟩ = some (.slice none 0 0) := by simp [go_sem]
    have hf : ∀ j, (w.alloc (.cells #[.slice none 0 0, .slice none 0 0] 29)).frozen? ⟨w.heap.size, j, none⟩ = false := fun j => by simp [go_sem]
    generalize w.alloc (.cells #[.slice none 0 0, .slice none 0 0] 29) = w1 at *
    go_wp2_with fail
    (try simp only [Exit.inBlock, Exit.then])
    refine bodyPost_ret (v := .tuple #[.agg #[.slice none 0 0, .slice none 0 0], .int .i64 0, .int .i64 2]) (by simp [results, Tryz.results7, go_sem, c0, c1]) rfl ⟨⟨_, ret_three rfl (by rw [Hr.out]; rfl) (by rw [Hr.out]), ?_⟩, ?_⟩
    · rw [newL_bad Hr.out (by decide)]
      exact ROwnT.nil _ _
    · exact (ho.setCell (Nat.le_refl _) _).setCell (Nat.le_refl _) _
  · have hi : ¬ (1000 : Int) < l.length := by omega
    have Hr : Hid (newR l = newAt l [] 0) := Lib.hid (if_neg hbig)
    obtain ⟨a, cap, rfl, hc1, hc2⟩ := hv.form
    have Hv := Lib.hid hv
    have hmm := @run_makeMap Tryz.prog
    clear hv
    go_enter Tryz.func7, Tryz.ntmps7
    have oA1 : Old (w.alloc (.cells #[.slice none 0 0, .slice none 0 0] 29)) (((w.alloc (.cells #[.slice none 0 0, .slice none 0 0] 29)).alloc (.cells #[.slice none 0 0, .slice none 0 0] 29)).alloc (.map #[] 0)) := ((Old.refl _).alloc _).alloc _
    have oA2 : Old ((w.alloc (.cells #[.slice none 0 0, .slice none 0 0] 29)).alloc (.cells #[.slice none 0 0, .slice none 0 0] 29)) (((w.alloc (.cells #[.slice none 0 0, .slice none 0 0] 29)).alloc (.cells #[.slice none 0 0, .slice none 0 0] 29)).alloc (.map #[] 0)) := (Old.refl _).alloc _
    have ho : Old w (((w.alloc (.cells #[.slice none 0 0, .slice none 0 0] 29)).alloc (.cells #[.slice none 0 0, .slice none 0 0] 29)).alloc (.map #[] 0)) := ((Old.refl w).alloc _).trans oA1
    have hS : RTabO w (((w.alloc (.cells #[.slice none 0 0, .slice none 0 0] 29)).alloc (.cells #[.slice none 0 0, .slice none 0 0] 29)).alloc (.map #[] 0)) w.heap.size (w.heap.size + 1) (w.heap.size + 1 + 1) 0 (.slice none 0 0) (.slice none 0 0) [] [] [] := by
      refine ⟨Nat.le_refl _, by omega, by omega, by omega, by omega, by omega, by simp; omega, by simp, fun o => (frozen_block (p := ⟨w.heap.size, o, none⟩) (oA1.block _ (by simp))).trans (by simp [go_sem]),
        fun o => (frozen_block (p := ⟨w.heap.size + 1, o, none⟩) (oA2.block _ (by simp))).trans ?_, oA1.cell (by simp [go_sem]), oA1.cell (by simp [go_sem]), oA2.cell ?_, oA2.cell ?_, OwnS.nil _ _ _ _, OwnS.nil _ _ _ _, ?_, by simp [Value.ownBlock], by simp [Value.ownBlock], .inl rfl⟩
      · have h := World.alloc_heap_new (w.alloc (.cells #[.slice none 0 0, .slice none 0 0] 29)) (.cells #[.slice none 0 0, .slice none 0 0] 29)
        rw [World.size_alloc] at h
        unfold World.frozen?
        dsimp only
        rw [h]
        simp
      · simp [go_sem]
      · simp [go_sem]
      · have h := MapTO.made Tryz.prog 9 3 ((w.alloc (.cells #[.slice none 0 0, .slice none 0 0] 29)).alloc (.cells #[.slice none 0 0, .slice none 0 0] 29))
        rw [World.size_alloc, World.size_alloc] at h
        rw [onesN_nil]
        exact h
    go_upto_region 5 with fail
    clear oA1 oA2
    generalize (((w.alloc (.cells #[.slice none 0 0, .slice none 0 0] 29)).alloc (.cells #[.slice none 0 0, .slice none 0 0] 29)).alloc (.map #[] 0)) = W1 at *
    generalize hrr : w.heap.size = r at *
    have hbr : w.heap.size ≤ r := by omega
    clear hrr
    generalize hcc : r + 1 = c at *
    generalize hbb : c + 1 = b at *
    have HS0 := Lib.hid hS
    clear hS hcc hbb
    go_wp2_with fail
    go_loopw [19] (fun kv wr => ∃ (k n : Nat) (u0 u1 : Value), k ≤ l.length ∧ kv = .int .i64 k ∧ n ≤ k ∧ RTabO w wr r c b n u0 u1 (l.take k) ((l.take k).map nrm) ((l.take k).map nrm) ∧ newAt (l.drop k) ((l.take k).map nrm) k = newAt l [] 0 ∧ Old w wr) (fun kv _ => l.length - (intOf kv).toNat)
    case atStart => exact ⟨0, 0, _, _, Nat.zero_le _, rfl, Nat.le_refl _, HS0.out, rfl, ho⟩
    case round =>
      clear HS0 ho
      obtain ⟨k, n, u0, u1, hk, rfl, hnk, hS, hat, ho⟩ := hrel
      have HS := Lib.hid hS
      have Hat := Lib.hid hat
      clear hS hat
      by_cases hlt : k < l.length
      · have hk1 : (k : Int) < l.length := by omega
        obtain ⟨ba, off, cap', e, hc1', hc2', hN⟩ := Hv.out.at' hlt
        obtain ⟨rfl, _, rfl⟩ := Value.slice.inj e
        have kN := hN wr ho
        have hdrop : l.drop k = nmAt l k :: l.drop (k + 1) := by
          rw [List.drop_eq_getElem_cons hlt]
          simp [nmAt, List.getD, hlt]
        have htake : l.take (k + 1) = l.take k ++ [nmAt l k] := by
          rw [List.take_succ_eq_append_getElem hlt]
          simp [nmAt, List.getD, hlt]
        have Hdrop := Lib.hid hdrop
        have Htake := Lib.hid htake
        have HN := Lib.hid (RNorm_any (nmAt l k))
        have hsz := normR_size (nmAt l k)
        clear hN e hdrop htake
        by_cases he : (normR (nmAt l k)).2 = 0
        · rw [he] at HN
          rw [show (normR (nmAt l k)).1 = nrm (nmAt l k) from rfl] at HN
          have hs' : (nrm (nmAt l k)).size ≤ 9223372036854775807 := by unfold nrm; omega
          by_cases hin : nrm (nmAt l k) ∈ (l.take k).map nrm
          · have Hn : Hid (newR l = (k, 71)) := Lib.hid (by rw [Hr.out, ← Hat.out, Hdrop.out, newAt_twice he hin])
            have Hz := Lib.hid (onesN_yes hin)
            have Hbad : Hid (newL l = []) := Lib.hid (newL_bad Hn.out (show ¬ (71 : Int) = 0 by decide))
            clear Hat Hdrop Htake hin he hsz
            generalize nrm (nmAt l k) = q at *
            generalize nmAt l k = s at *
            go_upto_region 12 with (first
              | (go_at_call 21; refine (HN.out _).mono ?_; rintro e w1 ⟨rfl, o1⟩; have hlk := run_lookup_one Tryz.underlying9 Tryz.underlying62 Tryz.underlying3 zeroInt (HS.out.old o1).mp hs' Hz.out))
            have hS1 := HS.out.old o1
            have c0 := hS1.r0
            have c1 := hS1.r1
            have f0 := hS1.fr
            have how : Old w w1 := ho.trans o1
            clear HS hlk hS1
            go_wp2_with fail
            (try simp only [Exit.inBlock, Exit.then])
            refine bodyPost_ret (v := .tuple #[.agg #[.slice none 0 0, .slice none 0 0], .int .i64 k, .int .i64 71]) (by simp [results, Tryz.results7, go_sem, c0, c1]) rfl ⟨⟨_, ret_three rfl (by rw [Hn.out]) (by rw [Hn.out]), ?_⟩, ?_⟩
            · rw [Hbad.out]; exact ROwnT.nil _ _
            · exact (how.setCell (p := ⟨r, 0, none⟩) hbr _).setCell (p := ⟨r, 1, none⟩) hbr _
          · have Hz := Lib.hid (onesN_no hin)
            have Hsn := Lib.hid (onesN_snoc ((l.take k).map nrm) (nrm (nmAt l k)))
            have Hn1 : Hid (newAt (l.drop (k + 1)) ((l.take (k + 1)).map nrm) (k + 1) = newAt l [] 0) := Lib.hid (by rw [← Hat.out, Hdrop.out, newAt_on he hin, Htake.out, List.map_append]; rfl)
            have Hmp : Hid ((l.take (k + 1)).map nrm = (l.take k).map nrm ++ [nrm (nmAt l k)]) := Lib.hid (by rw [Htake.out, List.map_append]; rfl)
            have hlT : (l.take k).length = k := by rw [List.length_take]; omega
            have hlM : ((l.take k).map nrm).length = k := by rw [List.length_map]; exact hlT
            obtain ⟨i0, hi0, hz0, hz1, hz2⟩ := info_parts infoTx
            clear Hat Hdrop hin he hsz
            generalize l.take k = T at *
            generalize T.map nrm = M at *
            have hkT : T.length ≤ 1000 := by omega
            have hkM : M.length ≤ 1000 := by omega
            clear hlT hlM
            generalize nrm (nmAt l k) = q at *
            generalize nmAt l k = s at *
            go_upto_region 14 with (first
              | (go_at_call 21; refine (HN.out _).mono ?_; rintro e w1 ⟨rfl, o1⟩; have hlk := run_lookup_none Tryz.underlying9 Tryz.underlying62 Tryz.underlying3 zeroInt (HS.out.old o1).mp hs' Hz.out)
              | (refine wpList_update_mto (w0 := w) rfl _ _ _ _ rfl _ _ Tryz.underlying9 Tryz.underlying62 Tryz.underlying3 b n _ rfl (HS.out.old o1).mp (by omega) q 1 rfl hs' rfl ⟨by omega, by omega⟩ (ho.trans o1) HS.out.bb ?_; intro w2 hm2 o2 hg2))
            rw [← Hsn.out] at hm2
            have hS2 := (HS.out.old o1).putM hg2 hm2
            have HS2 := Lib.hid hS2
            have d0 := later hS2.c0
            have hc0 := fun A => (hS2.old ((Old.refl w2).alloc A))
            have HC0 := Lib.hid hc0
            have hsw := o2.size
            clear HS hm2 hg2 hlk hS2 hc0
            go_upto_region 15 with (at_builtin; refine wpList_append_lies _ rfl _ _ 22 rfl w.heap.size 9 i0 (.string ⟨#[]⟩) 1 16 Tryz.underlying22 hi0 hz0 hz1 hz2 rfl (by decide) u0 T.length (txE.all T) rfl (HC0.out _).s0 ⟨w2.heap.size, 0, none⟩ 1 1 [.string s] rfl rfl (news_one (by simp [go_sem])) (fun v hv => by rw [List.mem_singleton] at hv; subst hv; rfl) (by decide) (by show T.length + 1 ≤ 9223372036854775807; omega) (by omega) (by simp; omega) _ rfl ?_; intro g0 cp0 wa hown0 hg0 hat0 hlt0; have hbk := hg0.block c (HC0.out _).ltc (fun e => ((HC0.out (.cells #[.string s] 9)).x0 c e.symm).2.1 rfl); have E0 := (World.cell?_of_block (a := ⟨c, 0, none⟩) hbk).trans (HC0.out _).c0; have F0 := (frozen_block (p := ⟨c, 0, none⟩) hbk).trans ((HC0.out _).fc 0); have HSa := Lib.hid ((HC0.out _).put0 hg0 hown0 (hat0.imp id fun e => by rw [e]; exact Nat.le_refl _)))
            have owb := Lib.hid (((o2.alloc (.cells #[.string s] 9)).grown hg0 (fun j e => (World.ownsRow.lt (HC0.out (.cells #[.string s] 9)).s0 j e).1)).setCell (p := ⟨c, 0, none⟩) HS2.out.bc (.slice (some ⟨g0, 0, none⟩) (T.length + 1) cp0))
            clear hown0 hg0 hat0 hlt0 hbk E0 F0 HC0 HS2 d0
            generalize wa.setCell ⟨c, 0, none⟩ (.slice (some ⟨g0, 0, none⟩) (T.length + 1) cp0) = wb at *
            have d1 := later HSa.out.c1
            have HC1 := Lib.hid (fun A => (HSa.out.old ((Old.refl wb).alloc A)))
            have hsb := owb.out.size
            go_wp2_with (at_builtin; refine wpList_append_lies _ rfl _ _ 22 rfl w.heap.size 9 i0 (.string ⟨#[]⟩) 1 16 Tryz.underlying22 hi0 hz0 hz1 hz2 rfl (by decide) u1 M.length (txE.all M) rfl (HC1.out _).s1 ⟨wb.heap.size, 0, none⟩ 1 1 [.string q] rfl rfl (news_one (by simp [go_sem])) (fun v hv => by rw [List.mem_singleton] at hv; subst hv; rfl) (by decide) (by show M.length + 1 ≤ 9223372036854775807; omega) (by omega) (by simp; omega) _ rfl ?_; intro g1 cp1 wd hown1 hg1 hat1 hlt1; have hbk := hg1.block c (HC1.out _).ltc (fun e => ((HC1.out (.cells #[.string q] 9)).x1 c e.symm).2.1 rfl); have E1 := (World.cell?_of_block (a := ⟨c, 1, none⟩) hbk).trans (HC1.out _).c1; have F1 := (frozen_block (p := ⟨c, 1, none⟩) hbk).trans ((HC1.out _).fc 1); have HSb := Lib.hid ((HC1.out _).put1 hg1 hown1 (hat1.imp id fun e => by rw [e]; exact Nat.le_refl _)))
            have owd := Lib.hid (((owb.out.alloc (.cells #[.string q] 9)).grown hg1 (fun j e => (World.ownsRow.lt (HC1.out (.cells #[.string q] 9)).s1 j e).1)).setCell (p := ⟨c, 1, none⟩) HSa.out.bc (.slice (some ⟨g1, 0, none⟩) (M.length + 1) cp1))
            go_roundw
            case rel => exact ⟨k + 1, n + 1, _, _, by omega, by go_num, by omega, by rw [Hmp.out, Htake.out]; exact HSb.out, Hn1.out, owd.out⟩
            case measure => simp [intOf]; omega
        · have hne : ((normR (nmAt l k)).2 != 0) = true := by simpa using he
          have hne' : ((normR (nmAt l k)).2 == 0) = false := by simpa using he
          have Hn : Hid (newR l = (k, (normR (nmAt l k)).2)) := Lib.hid (by rw [Hr.out, ← Hat.out, Hdrop.out, newAt_bad he])
          have Hbad : Hid (newL l = []) := Lib.hid (newL_bad Hn.out he)
          clear he Hdrop Htake Hat hsz
          generalize normR (nmAt l k) = q at *
          obtain ⟨q1, q2⟩ := q
          generalize nmAt l k = s at *
          dsimp only at *
          go_upto_region 12 with (go_at_call 21; refine (HN.out _).mono ?_; rintro e w1 ⟨rfl, o1⟩)
          have hS1 := HS.out.old o1
          have c0 := hS1.r0
          have c1 := hS1.r1
          have f0 := hS1.fr
          have how : Old w w1 := ho.trans o1
          clear HS hS1
          go_wp2_with fail
          (try simp only [Exit.inBlock, Exit.then])
          refine bodyPost_ret (v := .tuple #[.agg #[.slice none 0 0, .slice none 0 0], .int .i64 k, .int .i64 q2]) (by simp [results, Tryz.results7, go_sem, c0, c1]) rfl ⟨⟨_, ret_three rfl (by rw [Hn.out]) (by rw [Hn.out]), ?_⟩, ?_⟩
          · rw [Hbad.out]; exact ROwnT.nil _ _
          · exact (how.setCell (p := ⟨r, 0, none⟩) hbr _).setCell (p := ⟨r, 1, none⟩) hbr _
      · obtain rfl : k = l.length := by omega
        have hk1 : ¬ (l.length : Int) < l.length := by omega
        have hd : l.drop l.length = [] := List.drop_length
        have ht : l.take l.length = l := List.take_length
        rw [hd] at Hat
        rw [ht] at HS
        have Hn : Hid (newR l = (0, 0)) := Lib.hid (by rw [Hr.out, ← Hat.out]; rfl)
        have Hok : Hid (newL l = l) := Lib.hid (if_pos (by rw [Hn.out]))
        have x0 := HS.out.c0
        have x1 := HS.out.c1
        have y0 := HS.out.r0
        have y1 := HS.out.r1
        have f0 := HS.out.fr
        have HK := Lib.hid (fun (a b : Value) => show ROwnT w ((wr.setCell ⟨r, 0, none⟩ a).setCell ⟨r, 1, none⟩ b) (.agg #[u0, u1]) l from ⟨u0, u1, rfl,
          (HS.out.s0.kept (grown_set _ _ _ _) (by cases e : u0.ownBlock with | none => exact .inl rfl | some g => exact .inr (fun e2 => (HS.out.x0 g e).1 (Option.some.inj e2)))).kept (grown_set _ _ _ _) (by cases e : u0.ownBlock with | none => exact .inl rfl | some g => exact .inr (fun e2 => (HS.out.x0 g e).1 (Option.some.inj e2))),
          (HS.out.s1.kept (grown_set _ _ _ _) (by cases e : u1.ownBlock with | none => exact .inl rfl | some g => exact .inr (fun e2 => (HS.out.x1 g e).1 (Option.some.inj e2)))).kept (grown_set _ _ _ _) (by cases e : u1.ownBlock with | none => exact .inl rfl | some g => exact .inr (fun e2 => (HS.out.x1 g e).1 (Option.some.inj e2)))⟩)
        obtain ⟨b0, cb0, rfl, _, _⟩ := HS.out.s0.form
        obtain ⟨b1, cb1, rfl, _, _⟩ := HS.out.s1.form
        clear hd ht Hat HS
        go_wp2_with fail
        (try simp only [Exit.inBlock, Exit.then])
        refine bodyPost_ret (v := .tuple #[.agg #[.slice b0 l.length cb0, .slice b1 (l.map nrm).length cb1], .int .i64 0, .int .i64 0]) (by simp [results, Tryz.results7, go_sem, y0, y1]) rfl ⟨⟨_, ret_three rfl (by rw [Hn.out]; rfl) (by rw [Hn.out]), ?_⟩, ?_⟩
        · rw [Hok.out]; exact HK.out _ _
        · exact (ho.setCell (p := ⟨r, 0, none⟩) hbr _).setCell (p := ⟨r, 1, none⟩) hbr _
end Go.Proofs.YtpifkinlaicliaaGreatDoor
