/-
  KEYWORD, H: gathered.
-/
import Derived.Test.YtohngjkedhpikaaGreatDoorZKwR
import Derived.Test.YtohngjkedhpikaaGreatDoorZKwM
import Derived.Deep.LoopGhost
import Derived.Deep.DeepCutAuto
import Derived.StillTailTactics
import Derived.BigQuiet
namespace Go.Proofs.YtohngjkedhpikaaGreatDoor
open Go.RowKit Go.Maps
attribute [local go_sem] Old.refl Old.alloc Old.drew Old.setCell OldW.old

theorem termO_same {M : List Mn} {m : Mn} (h : (termO M (foldS m.term)).isSome = true) : termO (M ++ [m]) = termO M := by
  funext t
  rw [termO_snoc]
  split
  · rfl
  · rename_i h1
    by_cases e : t = foldS m.term
    · subst e; exact absurd h h1
    · rw [if_neg e]
      cases ht : termO M t with
      | none => rfl
      | some x => rw [ht] at h1; exact absurd rfl h1
theorem termO_new {M : List Mn} {m : Mn} (h : termO M (foldS m.term) = none) : (fun t => (termO (M ++ [m]) t).map Value.string) = fun q => if q = foldS m.term then some (.string m.term) else (termO M q).map Value.string := by
  funext t
  rw [termO_snoc]
  by_cases e : t = foldS m.term
  · subst e; rw [if_pos rfl, h]; simp
  · rw [if_neg e, if_neg e]
    split
    · rfl
    · rename_i h1
      cases ht : termO M t with
      | none => rfl
      | some x => rw [ht] at h1; exact absurd rfl h1
theorem subO_same {M : List Mn} {m : Mn} (h : (subO M m.pl).isSome = true) : subO (M ++ [m]) = subO M := by
  funext t
  rw [subO_snoc]
  split
  · rfl
  · rename_i h1
    by_cases e : t = m.pl
    · subst e; exact absurd h h1
    · rw [if_neg e]
      cases ht : subO M t with
      | none => rfl
      | some x => rw [ht] at h1; exact absurd rfl h1
theorem subO_new {M : List Mn} {m : Mn} (h : subO M m.pl = none) : (fun t => (subO (M ++ [m]) t).map Value.string) = fun q => if q = m.pl then some (.string m.sub) else (subO M q).map Value.string := by
  funext t
  rw [subO_snoc]
  by_cases e : t = m.pl
  · subst e; rw [if_pos rfl, h]; simp
  · rw [if_neg e, if_neg e]
    split
    · rfl
    · rename_i h1
      cases ht : subO M t with
      | none => rfl
      | some x => rw [ht] at h1; exact absurd rfl h1
/-- the entries of the first mentions -/
def EoM (M : List Mn) (p : Pl) : Option En := if p ∈ places M then some (entOf M p) else none
/-- the mention m is entered: p's entry, and no other's, is turned -/
theorem EoM_snoc (M : List Mn) (m : Mn) : EoM (M ++ [m]) = fun q => if q = m.pl then some (entOf (M ++ [m]) m.pl) else EoM M q := by
  funext q
  unfold EoM
  rw [places_snoc, placeStep]
  by_cases e : q = m.pl
  · subst e
    rw [if_pos rfl, if_pos]
    split
    · assumption
    · simp
  · rw [if_neg e]
    have h : q ∈ (if m.pl ∈ places M then places M else places M ++ [m.pl]) ↔ q ∈ places M := by
      split
      · rfl
      · simp [e]
    by_cases hq : q ∈ places M
    · rw [if_pos (h.2 hq), if_pos hq, entOf_other hq (fun k => e k.symm)]
    · rw [if_neg (fun k => hq (h.1 k)), if_neg hq]
def mnC (m : Mn) : Array Value := #[.int .i64 m.topic, .int .i64 m.src, .int .i64 m.line, .string m.term, .string m.sub, .string m.aim, .int .i64 m.see]
/-- a round of gathered, as far as the maps go -/
structure RS (w wx : World) (fb bt bs bo bx g9 g10 n k : Nat) (T : ByteArray → Option ByteArray) (Sb : Pl → Option ByteArray) (Eo : Pl → Option En) (B : Pl → Nat) (TV SV : Pl → Value) (own : Nat → Option Pl) (m : Mn) : Prop where
  gs : GS w wx fb bt bs bo n k T Sb Eo B TV SV own
  box : wx.heap[bx]? = some (.cells #[.map (some fb)] 83 (0, 0))
  h9 : wx.heap[g9]? = some (.cells (mnC m) 128 (0, 0))
  h10 : wx.heap[g10]? = some (.cells #[.string m.pl.1, .string m.pl.2] 89 (0, 0))
  lo : OldBut fb w wx
  ob : own bx = none
  x0 : bx ≠ fb ∧ bx ≠ bt ∧ bx ≠ bs ∧ bx ≠ bo
  x9 : g9 ≠ fb ∧ g9 ≠ bt ∧ g9 ≠ bs ∧ g9 ≠ bo
  x10 : g10 ≠ fb ∧ g10 ≠ bt ∧ g10 ≠ bs ∧ g10 ≠ bo
  bt' : w.heap.size ≤ bt
  bs' : w.heap.size ≤ bs
  bo' : w.heap.size ≤ bo
theorem OldBut.newG {f : Nat} {w V W : World} (h : OldBut f w V) {row : Option Nat} (hg : V.grownBy W row) (hr : ∀ g, row = some g → w.heap.size ≤ g) : OldBut f w W :=
  ⟨hg.os.trans h.os, hg.tape.trans h.tape, hg.output.trans h.output, Nat.le_trans h.size hg.size, fun k hk hne => (hg.block k (Nat.lt_of_lt_of_le hk h.size) fun e => by have := hr k e.symm; omega).trans (h.block k hk hne)⟩
theorem obj_grown {w W : World} {g : Nat} {o : Obj} {row : Option Nat} (h : w.heap[g]? = some o) (k : w.grownBy W row) (hne : some g ≠ row) : W.heap[g]? = some o := by rw [k.block g (Array.getElem?_eq_some_iff.1 h).1 hne]; exact h
theorem RS.putT {w wx W : World} {fb bt bs bo bx g9 g10 n k : Nat} {T T' : ByteArray → Option ByteArray} {Sb : Pl → Option ByteArray} {Eo : Pl → Option En} {B : Pl → Nat} {TV SV : Pl → Value} {own : Nat → Option Pl} {m : Mn} (h : RS w wx fb bt bs bo bx g9 g10 n k T Sb Eo B TV SV own m)
    (hg : wx.grownBy W (some bt)) (hm : MapV Tryz.prog 9 Value.string W bt (k + 1) (fun t => (T' t).map Value.string)) : RS w W fb bt bs bo bx g9 g10 n (k + 1) T' Sb Eo B TV SV own m :=
  ⟨h.gs.putT hg hm, obj_grown h.box hg fun e => h.x0.2.1 (Option.some.inj e), obj_grown h.h9 hg fun e => h.x9.2.1 (Option.some.inj e), obj_grown h.h10 hg fun e => h.x10.2.1 (Option.some.inj e), h.lo.newG hg fun _ e => Option.some.inj e ▸ h.bt', h.ob, h.x0, h.x9, h.x10, h.bt', h.bs', h.bo'⟩
theorem RS.putS {w wx W : World} {fb bt bs bo bx g9 g10 n k : Nat} {T : ByteArray → Option ByteArray} {Sb S' : Pl → Option ByteArray} {Eo : Pl → Option En} {B : Pl → Nat} {TV SV : Pl → Value} {own : Nat → Option Pl} {m : Mn} (h : RS w wx fb bt bs bo bx g9 g10 n k T Sb Eo B TV SV own m)
    (hg : wx.grownBy W (some bs)) (hm : MapV Tryz.prog 89 plV W bs (k + 1) (fun t => (S' t).map Value.string)) : RS w W fb bt bs bo bx g9 g10 n (k + 1) T S' Eo B TV SV own m :=
  ⟨h.gs.putS hg hm, obj_grown h.box hg fun e => h.x0.2.2.1 (Option.some.inj e), obj_grown h.h9 hg fun e => h.x9.2.2.1 (Option.some.inj e), obj_grown h.h10 hg fun e => h.x10.2.2.1 (Option.some.inj e), h.lo.newG hg fun _ e => Option.some.inj e ▸ h.bs', h.ob, h.x0, h.x9, h.x10, h.bt', h.bs', h.bo'⟩
theorem cells_at {w : World} {g : Nat} {cs : Array Value} {T : TypeId} {fr : Nat × Nat} (h : w.heap[g]? = some (.cells cs T fr)) {i : Nat} {v : Value} (hi : cs[i]? = some v) : w.cell? ⟨g, i, none⟩ = some v := by
  obtain ⟨a, b⟩ := fr
  rw [cell_of_row w g i cs T (a, b) h]; exact hi
theorem MapV.madeAt {κ : Type} (P : Program) (k : TypeId) (kv : κ → Value) (w : World) {b : Nat} (h : w.heap.size = b) : MapV P k kv (w.alloc (.map #[] 0)) b 0 (fun _ => none) := h ▸ MapV.made P k kv w
theorem obj_old {w W : World} {g : Nat} {o : Obj} (h : w.heap[g]? = some o) (k : Old w W) : W.heap[g]? = some o := by rw [k.block g (Array.getElem?_eq_some_iff.1 h).1]; exact h
theorem obj_but {w W : World} {g f : Nat} {o : Obj} (h : w.heap[g]? = some o) (k : OldBut f w W) (hne : g ≠ f) : W.heap[g]? = some o := by rw [k.block g (Array.getElem?_eq_some_iff.1 h).1 hne]; exact h
/-- the entry of m's place ahead of m's own key or see -/
def midE (M : List Mn) (m : Mn) : En := ⟨(termO (M ++ [m]) m.pl.1).getD noB, (subO (M ++ [m]) m.pl).getD noB, topicsOf M m.pl, seesOf M m.pl⟩
theorem ent_see_in {M : List Mn} {m : Mn} (h : m.see = 1) (he : ∃ s ∈ seesOf M m.pl, foldS s = foldS m.aim) : entOf (M ++ [m]) m.pl = midE M m := by
  unfold entOf midE
  rw [topicsOf_snoc, topStep, if_neg (fun k => k.2.1 h), seesOf_snoc, seeStep, if_neg (fun k => k.2.2 he)]
theorem ent_see_new {M : List Mn} {m : Mn} (h : m.see = 1) (he : ¬ ∃ s ∈ seesOf M m.pl, foldS s = foldS m.aim) : entOf (M ++ [m]) m.pl = { midE M m with sees := seesOf M m.pl ++ [m.aim] } := by
  unfold entOf midE
  rw [topicsOf_snoc, topStep, if_neg (fun k => k.2.1 h), seesOf_snoc, seeStep, if_pos ⟨rfl, h, he⟩]
theorem ent_top_in {M : List Mn} {m : Mn} (h : m.see = 0) (he : (topicsOf M m.pl).getLast? = some m.topic) : entOf (M ++ [m]) m.pl = midE M m := by
  unfold entOf midE
  rw [topicsOf_snoc, topStep, if_neg (fun k => k.2.2 he), seesOf_snoc, seeStep, if_neg (fun k => by rw [h] at k; exact absurd k.2.1 (by decide))]
theorem ent_top_new {M : List Mn} {m : Mn} (h : m.see = 0) (he : ¬ (topicsOf M m.pl).getLast? = some m.topic) : entOf (M ++ [m]) m.pl = { midE M m with topics := topicsOf M m.pl ++ [m.topic] } := by
  unfold entOf midE
  rw [topicsOf_snoc, topStep, if_pos ⟨rfl, by rw [h]; decide, he⟩, seesOf_snoc, seeStep, if_neg (fun k => by rw [h] at k; exact absurd k.2.1 (by decide))]
theorem mid_in {M : List Mn} {m : Mn} (h : m.pl ∈ places M) : EoM M m.pl = some (midE M m) := by
  unfold EoM midE
  rw [if_pos h, termO_in h, subO_in h]
  rfl
theorem seesOf_length (M : List Mn) (p : Pl) : (seesOf M p).length ≤ M.length := by
  induction M using snocI with
  | h0 => simp [seesOf]
  | h1 M m ih =>
    rw [seesOf_snoc, seeStep]
    split <;> simp <;> omega
theorem topicsOf_length (M : List Mn) (p : Pl) : (topicsOf M p).length ≤ M.length := by
  induction M using snocI with
  | h0 => simp [topicsOf]
  | h1 M m ih =>
    rw [topicsOf_snoc, topStep]
    split <;> simp <;> omega
theorem zeroEntK {w : World} : (zeroValue 92).run Tryz.prog w = .ok (.pointer none) w := Tryz.zeroValue92 w
theorem RS.old {w wx W : World} {fb bt bs bo bx g9 g10 n k : Nat} {T : ByteArray → Option ByteArray} {Sb : Pl → Option ByteArray} {Eo : Pl → Option En} {B : Pl → Nat} {TV SV : Pl → Value} {own : Nat → Option Pl} {m : Mn} (h : RS w wx fb bt bs bo bx g9 g10 n k T Sb Eo B TV SV own m) (o : Old wx W) : RS w W fb bt bs bo bx g9 g10 n k T Sb Eo B TV SV own m :=
  have ob : ∀ {g : Nat} {x : Obj}, wx.heap[g]? = some x → W.heap[g]? = some x := fun h => by rw [o.block _ (Array.getElem?_eq_some_iff.1 h).1]; exact h
  ⟨h.gs.old o, ob h.box, ob h.h9, ob h.h10, h.lo.old o, h.ob, h.x0, h.x9, h.x10, h.bt', h.bs', h.bo'⟩
theorem RS.new {w wx W : World} {fb bt bs bo bx g9 g10 n k : Nat} {T : ByteArray → Option ByteArray} {Sb : Pl → Option ByteArray} {Eo : Pl → Option En} {B : Pl → Nat} {TV SV : Pl → Value} {own : Nat → Option Pl} {m : Mn} (h : RS w wx fb bt bs bo bx g9 g10 n k T Sb Eo B TV SV own m)
    {p : Pl} (t s : ByteArray) {b : Nat} (hb : wx.heap.size = b) (hg : (wx.alloc (.cells #[.string t, .string s, .slice none 0 0, .slice none 0 0] 45)).grownBy W (some bo))
    (hm : MapV Tryz.prog 89 plV W bo (k + 1) (fun q => if q = p then some (.pointer (some ⟨b, 0, none⟩)) else (Eo q).map fun _ => .pointer (some ⟨B q, 0, none⟩))) :
    RS w W fb bt bs bo bx g9 g10 n (k + 1) T Sb (fun q => if q = p then some ⟨t, s, [], []⟩ else Eo q) (fun q => if q = p then b else B q) (fun q => if q = p then .slice none 0 0 else TV q) (fun q => if q = p then .slice none 0 0 else SV q) (fun g => if g = b then some p else own g) m := by
  have hA := h.old ((Old.refl wx).alloc (.cells #[.string t, .string s, .slice none 0 0, .slice none 0 0] 45))
  have hl := (Array.getElem?_eq_some_iff.1 h.box).1
  refine ⟨h.gs.new h.lo.size t s hb hg hm, obj_grown hA.box hg fun e => h.x0.2.2.2 (Option.some.inj e), obj_grown hA.h9 hg fun e => h.x9.2.2.2 (Option.some.inj e), obj_grown hA.h10 hg fun e => h.x10.2.2.2 (Option.some.inj e), hA.lo.newG hg fun _ e => Option.some.inj e ▸ h.bo', ?_, h.x0, h.x9, h.x10, h.bt', h.bs', h.bo'⟩
  show (if bx = b then some p else own bx) = none
  rw [if_neg (by omega)]; exact h.ob
theorem frozen_at {w : World} {g : Nat} {cs : Array Value} {T : TypeId} (h : w.heap[g]? = some (.cells cs T (0, 0))) (i : Nat) : w.frozen? ⟨g, i, none⟩ = false := by simp [World.frozen?, h]
theorem OldBut.setNew {f g : Nat} {w W : World} (h : OldBut f w W) (hg : w.heap.size ≤ g) (o : Nat) (v : Value) : OldBut f w (W.setCell ⟨g, o, none⟩ v) :=
  ⟨h.os, h.tape, h.output, Nat.le_trans h.size (KeepsWalks.setCell W _ v).size, fun k hk hne => (Below.heap_setCell _ _ _ k (fun e => by simp at e; omega)).trans (h.block k hk hne)⟩
theorem Memo.setCell {w : World} {b n g : Nat} {F : ByteArray → Option ByteArray} (h : Memo w b n F) (hg : b ≠ g) (o : Nat) (v : Value) : Memo (w.setCell ⟨g, o, none⟩ v) b n F := ⟨h.mp.setCell (a := ⟨g, o, none⟩) hg v, h.says⟩
theorem set_two {w : World} {g : Nat} {a b : Value} {T : TypeId} (h : w.heap[g]? = some (.cells #[a, b] T (0, 0))) (c d : Value) : ((w.setCell ⟨g, 0, none⟩ c).setCell ⟨g, 1, none⟩ d).heap[g]? = some (.cells #[c, d] T (0, 0)) := by
  have h1 := heap_setCell_same w g 0 _ T c h
  exact heap_setCell_same _ g 1 _ T d h1
/-- what gathered hands back -/
def RetG (w w' : World) (fb n : Nat) (M : List Mn) (e : Ending) : Prop :=
  ∃ bt bs bo n' k B TV SV own, e = .returned (.map (some bo)) ∧ GS w w' fb bt bs bo n' k (termO M) (subO M) (EoM M) B TV SV own ∧ n' ≤ n + M.length * 200002 ∧ k ≤ 3 * M.length ∧ w.heap.size ≤ bo
set_option maxRecDepth 100000 in
set_option maxHeartbeats 3200000 in
theorem gathered_any (v : Value) (M : List Mn) (w0 w : World) (fb n : Nat) (hv : Recs mnE w0 v M) (ho : Old w0 w) (hT : Tabs w0) (hb : w0.heap.size ≤ fb) (hM : MemoN w fb n) (hn : n ≤ 1000000) (hMl : M.length ≤ 100000)
    (hsz : ∀ m ∈ M, m.term.size ≤ 4194304 ∧ m.sub.size ≤ 4194304 ∧ m.aim.size ≤ 4194304) (hfs : ∀ m ∈ M, (foldS m.term).size ≤ 9223372036854775807 ∧ (foldS m.sub).size ≤ 9223372036854775807) (hsee : ∀ m ∈ M, m.see = 0 ∨ m.see = 1) :
    Calls Tryz.prog 41 #[v, .map (some fb)] w fun e w' => RetG w w' fb n M e ∧ OldBut fb w w' := by
  obtain ⟨a, cap, rfl, hc1, hc2⟩ := hv.form
  obtain ⟨b, off, ha, hat⟩ := Mns.open hv
  have Ha := Lib.hid ha
  have Hat := Lib.hid hat
  have Hsz := Lib.hid hsz
  have Hfs := Lib.hid hfs
  have Hsee := Lib.hid hsee
  have hfl := hM.lt
  have hmm := @run_makeMap Tryz.prog
  clear hv ha hat hsz hsee hfs
  go_enter Tryz.func41, Tryz.ntmps41
  go_upto_region 3 with fail
  have hbx := heap_alloc_new w (.cells #[.map (some fb)] 83)
  have oB : Old (w.alloc (.cells #[.map (some fb)] 83)) ((((w.alloc (.cells #[.map (some fb)] 83)).alloc (.map #[] 0)).alloc (.map #[] 0)).alloc (.map #[] 0)) := (((Old.refl _).alloc _).alloc _).alloc _
  have hbx4 := obj_old hbx oB
  have o4 : Old w ((((w.alloc (.cells #[.map (some fb)] 83)).alloc (.map #[] 0)).alloc (.map #[] 0)).alloc (.map #[] 0)) := ((((Old.refl w).alloc _).alloc _).alloc _).alloc _
  have hGS : GS w ((((w.alloc (.cells #[.map (some fb)] 83)).alloc (.map #[] 0)).alloc (.map #[] 0)).alloc (.map #[] 0)) fb (w.heap.size + 1 + 1) (w.heap.size + 1 + 1 + 1) (w.heap.size + 1) n (3 * 0) (termO []) (subO []) (EoM []) (fun _ => 0) (fun _ => .slice none 0 0) (fun _ => .slice none 0 0) (fun _ => none) := by
    refine ⟨?_, ?_, ?_, ?_, fun p e he => ?_, rfl, rfl, rfl, rfl, by omega, by omega, by omega, by omega, by omega, by omega⟩
    · obtain ⟨F, h⟩ := hM; exact ⟨F, h.old o4⟩
    · exact (MapV.madeAt Tryz.prog 9 Value.string _ (by simp)).old ((Old.refl _).alloc _)
    · exact MapV.madeAt Tryz.prog 89 plV _ (by simp)
    · exact (MapV.madeAt Tryz.prog 89 plV _ (by simp)).old (((Old.refl _).alloc _).alloc _)
    · unfold EoM at he
      rw [if_neg (by simp [places])] at he
      cases he
  have HGS := Lib.hid hGS
  have l4 := o4.size
  have Hbx := Lib.hid hbx4
  have hso : ((((w.alloc (.cells #[.map (some fb)] 83)).alloc (.map #[] 0)).alloc (.map #[] 0)).alloc (.map #[] 0)).heap.size = w.heap.size + 4 := by simp
  clear hbx oB hbx4 hGS hM
  generalize ((((w.alloc (.cells #[.map (some fb)] 83)).alloc (.map #[] 0)).alloc (.map #[] 0)).alloc (.map #[] 0)) = W0 at *
  obtain ⟨bt, hbt⟩ : ∃ x, w.heap.size + 1 + 1 = x := ⟨_, rfl⟩
  obtain ⟨bs, hbs⟩ : ∃ x, w.heap.size + 1 + 1 + 1 = x := ⟨_, rfl⟩
  obtain ⟨bo, hbo⟩ : ∃ x, w.heap.size + 1 = x := ⟨_, rfl⟩
  obtain ⟨bx, hbx⟩ : ∃ x, w.heap.size = x := ⟨_, rfl⟩
  rw [hbs, hbt, hbo] at HGS ⊢
  rw [hbx] at Hbx ⊢
  have hX : Hid (bx ≠ fb ∧ bx ≠ bt ∧ bx ≠ bs ∧ bx ≠ bo ∧ bx = w.heap.size) := Lib.hid (by omega)
  have hY : Hid (w.heap.size ≤ bt ∧ w.heap.size ≤ bs ∧ w.heap.size ≤ bo ∧ bt < W0.heap.size ∧ bs < W0.heap.size ∧ bo < W0.heap.size) := Lib.hid (by omega)
  have Hso : Hid (W0.heap.size = w.heap.size + 4) := Lib.hid hso
  clear hbt hbs hbo hbx hso
  have HoA := Lib.hid ((OldBut.refl fb w).old o4)
  go_wp2_with fail
  go_loopg [22] M.length (fun c j wr => ∃ (k n' : Nat) (B : Pl → Nat) (TV SV : Pl → Value) (own : Nat → Option Pl), j = .int .i64 k ∧ k ≤ M.length ∧ M.length - k ≤ c ∧ n' ≤ n + k * 200002 ∧ GS w wr fb bt bs bo n' (3 * k) (termO (M.take k)) (subO (M.take k)) (EoM (M.take k)) B TV SV own ∧ wr.heap[bx]? = some (.cells #[.map (some fb)] 83 (0, 0)) ∧ own bx = none ∧ OldBut fb w wr)
  case atStart => exact ⟨0, n, _, _, _, _, rfl, Nat.zero_le _, Nat.le_refl _, by omega, HGS.out, Hbx.out, rfl, HoA.out⟩
  case round =>
    clear HGS Hbx HoA Hso l4 o4
    obtain ⟨k, n1, B, TV, SV, own, rfl, hk, hc, hn1, hgs, hbox, hown, hoF⟩ := hrel
    have HG := Lib.hid hgs
    have Hbox := Lib.hid hbox
    have Hown := Lib.hid hown
    have HoF := Lib.hid hoF
    clear hgs hbox hown hoF
    by_cases hlt : k < M.length
    · have hi : (k : Int) < M.length := by omega
      obtain ⟨m, hm⟩ : ∃ m, M[k]? = some m := ⟨_, List.getElem?_eq_getElem hlt⟩
      obtain rfl := Ha.out (by omega)
      have hmM := List.mem_of_getElem? hm
      obtain ⟨hs1, hs2, hs3⟩ := Hsz.out m hmM
      have hfm := Lib.hid (Hfs.out m hmM)
      have hO := HoF.out.base ho hb
      have c0 : ∀ V, Old wr V → V.cell? ⟨b, off + k * 7, none⟩ = some (.int .i64 m.topic) := fun V o => (Hat.out k m hm V (hO.trans o)).1
      have c1 : ∀ V, Old wr V → V.cell? ⟨b, off + k * 7 + 1, none⟩ = some (.int .i64 m.src) := fun V o => (Hat.out k m hm V (hO.trans o)).2.1
      have c2 : ∀ V, Old wr V → V.cell? ⟨b, off + k * 7 + 2, none⟩ = some (.int .i64 m.line) := fun V o => (Hat.out k m hm V (hO.trans o)).2.2.1
      have c3 : ∀ V, Old wr V → V.cell? ⟨b, off + k * 7 + 3, none⟩ = some (.string m.term) := fun V o => (Hat.out k m hm V (hO.trans o)).2.2.2.1
      have c4 : ∀ V, Old wr V → V.cell? ⟨b, off + k * 7 + 4, none⟩ = some (.string m.sub) := fun V o => (Hat.out k m hm V (hO.trans o)).2.2.2.2.1
      have c5 : ∀ V, Old wr V → V.cell? ⟨b, off + k * 7 + 5, none⟩ = some (.string m.aim) := fun V o => (Hat.out k m hm V (hO.trans o)).2.2.2.2.2.1
      have c6 : ∀ V, Old wr V → V.cell? ⟨b, off + k * 7 + 6, none⟩ = some (.int .i64 m.see) := fun V o => (Hat.out k m hm V (hO.trans o)).2.2.2.2.2.2
      have Htk : Hid (M.take (k + 1) = M.take k ++ [m]) := Lib.hid (by rw [List.take_add_one, hm]; rfl)
      have hse := Hsee.out m hmM
      have Hse := Lib.hid hse
      clear hm hmM hse
      go_upto_region 6 with fail
      clear c0 c1 c2 c3 c4 c5 c6
      have oa : Old wr (wr.alloc (.cells (mnC m) 128)) := (Old.refl wr).alloc _
      have h9 := heap_alloc_new wr (.cells (mnC m) 128)
      have hGA := HG.out.old oa
      have hbA := obj_old Hbox.out oa
      have hoA := HoF.out.old oa
      have hsA : wr.heap.size < (wr.alloc (.cells (mnC m) 128)).heap.size := by simp
      change Code.wp _ _ _ _ (wr.alloc (.cells (mnC m) 128))
      have hsr := HoF.out.size
      generalize wr.alloc (.cells (mnC m) 128) = wA at *
      generalize hg9 : wr.heap.size = g9 at *
      have H9 := Lib.hid h9
      have HGA := Lib.hid hGA
      have HbA := Lib.hid hbA
      have HoA := Lib.hid hoA
      clear h9 hGA hbA hoA oa
      have x9 : Hid (g9 ≠ fb ∧ g9 ≠ bt ∧ g9 ≠ bs ∧ g9 ≠ bo ∧ g9 ≠ bx) := Lib.hid (by
        have h1 := HG.out.memo.lt
        have h2 := HG.out.mt.lt
        have h3 := HG.out.ms.lt
        have h4 := HG.out.mo.lt
        have h5 := (Array.getElem?_eq_some_iff.1 Hbox.out).1
        omega)
      obtain ⟨F, hMF⟩ := HGA.out.memo
      have HM := Lib.hid (hMF.old (Old.refl wA).drew)
      have t0 := laterBut (g := fb) (cells_at (i := 0) HbA.out rfl) hX.out.1
      have t3 := laterBut (g := fb) (cells_at (i := 3) H9.out rfl) x9.out.1
      have t4 := laterBut (g := fb) (cells_at (i := 4) H9.out rfl) x9.out.1
      have HC := Lib.hid (fun (x : ByteArray) (hx : x.size ≤ 4194304) V F' j (o : OldBut fb wA V) (h : Memo V fb j F') (hk : j < 4611686018427387904) => of_any x w0 V fb j F' ((HoA.out.trans o).base ho hb) hT h hk hx)
      have HO := (OldBut.refl fb wA).drew
      have HOa := Lib.hid (fun (o : Obj) => ((OldBut.refl fb wA).alloc o).drew)
      have HMa := Lib.hid (fun (o : Obj) => hMF.old (((Old.refl wA).alloc o).drew))
      have hk0 : n1 < 4611686018427387904 := by omega
      have hk1 : n1 + 1 < 4611686018427387904 := by omega
      clear hMF
      have hfA : fb < wA.heap.size := HM.out.mp.lt
      have hns : ∀ V, OldBut fb wA V → V.heap.size ≠ fb := fun V o => by have := o.size; omega
      have Hns := Lib.hid hns
      clear hns
      go_cut [10] (fun t wx => ∃ g10 : Nat, t = .pointer (some ⟨g10, 0, none⟩) ∧ wx.heap[g10]? = some (.cells #[.string m.pl.1, .string m.pl.2] 89 (0, 0)) ∧ MemoN wx fb (n1 + 2) ∧ OldBut fb wA wx ∧ wA.heap.size ≤ g10)
      case first =>
        go_region_held3 (fun w' => w'.cell? ⟨bx, 0, none⟩ = some (.map (some fb)) ∧ w'.cell? ⟨g9, 3, none⟩ = some (.string m.term) ∧ w'.cell? ⟨g9, 4, none⟩ = some (.string m.sub)) (first
          | exact ⟨t0 _ HO, t3 _ HO, t4 _ HO⟩
          | exact ⟨t0 _ (HO.alloc _), t3 _ (HO.alloc _), t4 _ (HO.alloc _)⟩
          | exact ⟨t0 _ (HO.old (((Old.refl _).alloc _).setCell (Nat.le_refl _) _)), t3 _ (HO.old (((Old.refl _).alloc _).setCell (Nat.le_refl _) _)), t4 _ (HO.old (((Old.refl _).alloc _).setCell (Nat.le_refl _) _))⟩
          | exact ⟨t0 _ ((HO.setNew hnew _ _).setNew hnew _ _), t3 _ ((HO.setNew hnew _ _).setNew hnew _ _), t4 _ ((HO.setNew hnew _ _).setNew hnew _ _)⟩
          | go_keep) (first
          | (go_at_call 48; (with_reducible refine (HC.out m.term hs1 _ _ _ HO HM.out hk0).mono ?_); rintro e w1 ⟨rfl, ⟨F1, hM1, _, _⟩, o1⟩; replace HO := HO.trans o1; have HM1 := Lib.hid hM1; clear hM1)
          | (go_at_call 48; (with_reducible refine (HC.out m.term hs1 _ _ _ (HOa.out _) (HMa.out _) hk0).mono ?_); rintro e w1 ⟨rfl, ⟨F1, hM1, _, _⟩, o1⟩; have hn1 := Hns.out _ HO; have hnew : wA.heap.size ≤ wA.heap.size := Nat.le_refl _; have hb1 := obj_but (w := (wA.alloc _).drew) (heap_alloc_new wA _) o1 hn1; replace HO := (HOa.out _).trans o1; have HM1 := Lib.hid hM1; clear hM1)
          | (go_at_call 48; (with_reducible refine (HC.out m.sub hs2 _ _ _ HO HM1.out hk1).mono ?_); rintro e w2 ⟨rfl, ⟨F2, hM2, _, _⟩, o2⟩; replace HO := HO.trans o2; have qb := obj_but hb1 o2 hn1; have q0 := cells_at (i := 0) qb rfl; have q1 := cells_at (i := 1) qb rfl; have f0 := frozen_at qb 0; have f1 := frozen_at qb 1)
          | (go_at_call 48; (with_reducible refine (HC.out m.sub hs2 _ _ _ HO HM1.out hk1).mono ?_); rintro e w2 ⟨rfl, ⟨F2, hM2, _, _⟩, o2⟩; replace HO := HO.trans o2)
          | (go_at_call 48; (with_reducible refine (HC.out m.sub hs2 _ _ _ (HO.alloc _) (HM1.out.old ((Old.refl _).alloc _)) hk1).mono ?_); rintro e w2 ⟨rfl, ⟨F2, hM2, _, _⟩, o2⟩; have hn1 := Hns.out _ HO; have hnew := HO.size; have qb := obj_but (heap_alloc_new _ _) o2 hn1; replace HO := (HO.alloc _).trans o2; have q0 := cells_at (i := 0) qb rfl; have q1 := cells_at (i := 1) qb rfl; have f0 := frozen_at qb 0; have f1 := frozen_at qb 1)
          | fail)
        all_goals (try go_wp2_with fail)
        all_goals go_meet
        · exact ⟨_, rfl, heap_alloc_new w2 _, ⟨F2, hM2.old ((Old.refl _).alloc _)⟩, HO.alloc _, HO.size⟩
        · exact ⟨_, rfl, set_two qb _ _, ⟨F2, (hM2.setCell (Ne.symm hn1) _ _).setCell (Ne.symm hn1) _ _⟩, (HO.setNew hnew _ _).setNew hnew _ _, hnew⟩
        · exact ⟨_, rfl, set_two qb _ _, ⟨F2, (hM2.setCell (Ne.symm hn1) _ _).setCell (Ne.symm hn1) _ _⟩, (HO.setNew hnew _ _).setNew hnew _ _, hnew⟩
      case rest =>
        clear HO HOa HMa HM HC t0 t3 t4
        obtain ⟨g10, rfl, h10, hMm, hOc, hgA⟩ := hcut
        have x10 : g10 ≠ fb ∧ g10 ≠ bt ∧ g10 ≠ bs ∧ g10 ≠ bo := by
          have h1 := HGA.out.memo.lt
          have h2 := HGA.out.mt.lt
          have h3 := HGA.out.ms.lt
          have h4 := HGA.out.mo.lt
          omega
        have hRS : RS w wc fb bt bs bo bx g9 g10 (n1 + 2) (3 * k) (termO (M.take k)) (subO (M.take k)) (EoM (M.take k)) B TV SV own m :=
          ⟨HGA.out.but hOc hMm, obj_but HbA.out hOc hX.out.1, obj_but H9.out hOc x9.out.1, h10, HoA.out.trans hOc, Hown.out, ⟨hX.out.1, hX.out.2.1, hX.out.2.2.1, hX.out.2.2.2.1⟩, ⟨x9.out.1, x9.out.2.1, x9.out.2.2.1, x9.out.2.2.2.1⟩, x10, hY.out.1, hY.out.2.1, hY.out.2.2.1⟩
        have HRS := Lib.hid hRS
        have hwg : g9 < wA.heap.size := (Array.getElem?_eq_some_iff.1 H9.out).1
        have hrA : Hid (g9 < g10 ∧ ∀ p e, EoM (M.take k) p = some e → B p < g9 ∧ (∀ g, (TV p).ownBlock = some g → g < g9) ∧ ∀ g, (SV p).ownBlock = some g → g < g9) := Lib.hid ⟨by omega, fun p e he => by
          have h := HG.out.ent p e he
          rw [← hg9]
          exact ⟨h.1.lt, fun g hg => (World.ownsRow.lt h.1.tops g hg).2, fun g hg => (World.ownsRow.lt h.1.sees g hg).2⟩⟩
        clear h10 hMm hOc hRS HGA HbA H9 HoA HG Hbox HoF hsA hfA Hns hgA hwg hg9 x10
        have hkF := Lib.hid (keyK (s := m.pl.1) hfm.out.1)
        obtain ⟨klp, hkp⟩ := keyPl m.pl hfm.out.1 hfm.out.2
        have hkP := Lib.hid hkp
        clear hkp
        obtain ⟨oT, hoT⟩ : ∃ o, termO (M.take k) m.pl.1 = o := ⟨_, rfl⟩
        have HoT : Hid ((fun t => (termO (M.take k) t).map Value.string) m.pl.1 = oT.map Value.string) := Lib.hid (by show (termO (M.take k) m.pl.1).map _ = _; rw [hoT])
        have HoT' := Lib.hid hoT
        clear hoT
        go_upto_region 7 with fail
        have d0 := cells_at (i := 0) HRS.out.h10 rfl
        have d3 := cells_at (i := 3) HRS.out.h9 rfl
        go_upto_if 43 with (first
          | (refine wpList_lookup_mv_ok rfl _ _ _ rfl 9 9 (string_keyed Tryz.underlying9) Value.string Tryz.underlying82 (.string ⟨#[]⟩) zeroStrK bt _ _ rfl HRS.out.gs.mt m.pl.1 _ rfl hkF.out (oT.map Value.string) HoT.out ?_))
        go_cut [10] (fun t wx => t = .pointer (some ⟨g10, 0, none⟩) ∧ RS w wx fb bt bs bo bx g9 g10 (n1 + 2) (3 * k + 1) (termO (M.take (k + 1))) (subO (M.take k)) (EoM (M.take k)) B TV SV own m)
        case first =>
          cases oT with
          | some x =>
            have hq : termO (M.take (k + 1)) = termO (M.take k) := by rw [Htk.out]; exact termO_same (by show (termO _ m.pl.1).isSome = true; rw [HoT'.out]; rfl)
            have HRS' := Lib.hid (show RS w wc fb bt bs bo bx g9 g10 (n1 + 2) (3 * k + 1) (termO (M.take (k + 1))) (subO (M.take k)) (EoM (M.take k)) B TV SV own m from by rw [hq]; exact { HRS.out with gs := HRS.out.gs.mono (Nat.le_refl _) (by omega) })
            clear hq
            go_wp2_with fail
            go_meet
            exact ⟨rfl, HRS'.out⟩
          | none =>
            have Hq := Lib.hid (termO_new (M := M.take k) (m := m) HoT'.out)
            go_wp2_with (first
              | (refine wpList_update_mv rfl _ _ _ _ rfl 9 9 (string_keyed Tryz.underlying9) Value.string (fun _ _ => str_kv) Tryz.underlying82 bt _ _ rfl HRS.out.gs.mt (by omega) m.pl.1 _ rfl hkF.out (.string m.term) rfl ?_; intro w3 hm3 hg3))
            rw [← Htk.out] at Hq
            rw [show m.pl.1 = foldS m.term from rfl, ← Hq.out] at hm3
            have HRS' := Lib.hid (HRS.out.putT hg3 hm3)
            clear hm3 hg3
            go_meet
            exact ⟨rfl, HRS'.out⟩
        case rest =>
          clear HRS HoT HoT' d0 d3
          obtain ⟨rfl, hRS⟩ := hcut
          have HRS := Lib.hid hRS
          clear hRS
          obtain ⟨oS, hoS⟩ : ∃ o, subO (M.take k) m.pl = o := ⟨_, rfl⟩
          have HoS : Hid ((fun t => (subO (M.take k) t).map Value.string) m.pl = oS.map Value.string) := Lib.hid (by show (subO (M.take k) m.pl).map _ = _; rw [hoS])
          have HoS' := Lib.hid hoS
          clear hoS
          go_upto_region 10 with fail
          have d0 := cells_at (i := 0) HRS.out.h10 rfl
          have d1 := cells_at (i := 1) HRS.out.h10 rfl
          have d4 := cells_at (i := 4) HRS.out.h9 rfl
          go_upto_if 56 with (first
            | (refine wpList_lookup_mv_ok rfl _ _ _ rfl 89 9 keyedPl plV Tryz.underlying129 (.string ⟨#[]⟩) zeroStrK bs _ _ rfl HRS.out.gs.ms m.pl _ rfl hkP.out (oS.map Value.string) HoS.out ?_))
          go_cut [10] (fun t wx => t = .pointer (some ⟨g10, 0, none⟩) ∧ RS w wx fb bt bs bo bx g9 g10 (n1 + 2) (3 * k + 2) (termO (M.take (k + 1))) (subO (M.take (k + 1))) (EoM (M.take k)) B TV SV own m)
          case first =>
            cases oS with
            | some x =>
              have hq : subO (M.take (k + 1)) = subO (M.take k) := by rw [Htk.out]; exact subO_same (by rw [HoS'.out]; rfl)
              have HRS' := Lib.hid (show RS w wc fb bt bs bo bx g9 g10 (n1 + 2) (3 * k + 2) (termO (M.take (k + 1))) (subO (M.take (k + 1))) (EoM (M.take k)) B TV SV own m from by rw [hq]; exact { HRS.out with gs := HRS.out.gs.mono (Nat.le_refl _) (by omega) })
              clear hq
              go_wp2_with fail
              go_meet
              exact ⟨rfl, HRS'.out⟩
            | none =>
              have Hq := Lib.hid (subO_new (M := M.take k) (m := m) HoS'.out)
              go_wp2_with (first
                | (refine wpList_update_mv rfl _ _ _ _ rfl 89 9 keyedPl plV (fun _ _ => plV_inj) Tryz.underlying129 bs _ _ rfl HRS.out.gs.ms (by omega) m.pl _ rfl hkP.out (.string m.sub) rfl ?_; intro w3 hm3 hg3))
              rw [← Htk.out] at Hq
              rw [← Hq.out] at hm3
              have HRS' := Lib.hid (HRS.out.putS hg3 hm3)
              clear hm3 hg3
              go_meet
              exact ⟨rfl, HRS'.out⟩
          case rest =>
            clear HRS HoS HoS' d0 d1 d4
            obtain ⟨rfl, hRS⟩ := hcut
            have HRS := Lib.hid hRS
            clear hRS
            obtain ⟨oE, hoE⟩ : ∃ o, EoM (M.take k) m.pl = o := ⟨_, rfl⟩
            have HoE : Hid ((fun p => (EoM (M.take k) p).map fun _ => Value.pointer (some ⟨B p, 0, none⟩)) m.pl = oE.map fun _ => Value.pointer (some ⟨B m.pl, 0, none⟩)) := Lib.hid (by show (EoM (M.take k) m.pl).map _ = _; rw [hoE])
            have HoE' := Lib.hid hoE
            obtain ⟨oA, hoA⟩ : ∃ oA, oE.map (fun _ => (⟨B m.pl, 0, none⟩ : Addr)) = oA := ⟨_, rfl⟩
            have HoA' : Hid ((oE.map fun _ => Value.pointer (some ⟨B m.pl, 0, none⟩)).getD (.pointer none) = .pointer oA) := Lib.hid (by rw [← hoA]; cases oE <;> rfl)
            have HoC : Hid ((oE = none ∧ oA = none) ∨ (oE.isSome = true ∧ oA = some ⟨B m.pl, 0, none⟩)) := Lib.hid (by rw [← hoA]; cases oE <;> simp)
            clear hoE hoA
            go_upto_region 13 with fail
            have d0 := cells_at (i := 0) HRS.out.h10 rfl
            have d1 := cells_at (i := 1) HRS.out.h10 rfl
            go_upto_if 65 with (first
              | (refine wpList_lookup_mv rfl _ _ _ rfl 89 92 keyedPl plV Tryz.underlying84 (.pointer none) zeroEntK bo _ _ rfl HRS.out.gs.mo m.pl _ rfl hkP.out (oE.map fun _ => Value.pointer (some ⟨B m.pl, 0, none⟩)) HoE.out ?_; rw [HoA'.out]))
            go_cut [10, 15] (fun t z wx => t = .pointer (some ⟨g10, 0, none⟩) ∧ ∃ (B : Pl → Nat) (TV SV : Pl → Value) (own : Nat → Option Pl), z = .pointer (some ⟨B m.pl, 0, none⟩) ∧ RS w wx fb bt bs bo bx g9 g10 (n1 + 2) (3 * k + 3) (termO (M.take (k + 1))) (subO (M.take (k + 1))) (fun q => if q = m.pl then some (midE (M.take k) m) else EoM (M.take k) q) B TV SV own m)
            case first =>
              rcases HoC.out with ⟨h1, rfl⟩ | ⟨h1, rfl⟩
              rotate_left
              · have hin : m.pl ∈ places (M.take k) := Classical.byContradiction fun h => by
                  have := HoE'.out
                  unfold EoM at this
                  rw [if_neg h] at this
                  rw [← this] at h1
                  cases h1
                clear h1
                have hq : (fun q => if q = m.pl then some (midE (M.take k) m) else EoM (M.take k) q) = EoM (M.take k) := by
                  funext q
                  by_cases e : q = m.pl
                  · rw [if_pos e, e, mid_in hin]
                  · rw [if_neg e]
                have HRS' := Lib.hid (show RS w wc fb bt bs bo bx g9 g10 (n1 + 2) (3 * k + 3) (termO (M.take (k + 1))) (subO (M.take (k + 1))) (fun q => if q = m.pl then some (midE (M.take k) m) else EoM (M.take k) q) B TV SV own m from by rw [hq]; exact { HRS.out with gs := HRS.out.gs.mono (Nat.le_refl _) (by omega) })
                clear hq hin
                go_wp2_with fail
                go_meet
                exact ⟨rfl, B, TV, SV, own, rfl, HRS'.out⟩
              · have hin : ¬ m.pl ∈ places (M.take k) := fun h => by
                  have := HoE'.out
                  rw [mid_in h, h1] at this
                  cases this
                clear h1
                obtain ⟨t, ht⟩ : ∃ t, termO (M.take (k + 1)) m.pl.1 = some t := Option.isSome_iff_exists.1 (termO_some.2 ⟨m, by rw [Htk.out]; simp, rfl⟩)
                obtain ⟨su, hsu⟩ : ∃ t, subO (M.take (k + 1)) m.pl = some t := Option.isSome_iff_exists.1 (subO_some.2 ⟨m, by rw [Htk.out]; simp, rfl⟩)
                have Hmid : Hid (midE (M.take k) m = ⟨t, su, [], []⟩) := Lib.hid (by unfold midE; rw [← Htk.out, ht, hsu, topicsOf_out hin, seesOf_out hin]; rfl)
                have hlt := (HRS.out.gs.mt.old (Old.refl wc).drew).look (string_keyed Tryz.underlying9) Tryz.underlying82 zeroStrK hkF.out
                have hls := (HRS.out.gs.ms.old (Old.refl wc).drew).look keyedPl Tryz.underlying129 zeroStrK hkP.out
                rw [ht] at hlt
                rw [hsu] at hls
                rw [show plV m.pl = .agg #[.string m.pl.1, .string m.pl.2] from rfl] at hls
                clear ht hsu hin
                go_upto_region 15 with fail
                refine wp_region_still_tail 8 (by kernel_rfl) (by kernel_rfl) ?_
                simp only [List.take_succ_cons, List.take_zero, List.drop_succ_cons, List.drop_zero]
                repeat still_step
                refine wpStill_nil ?_
                have HRSd := Lib.hid (HRS.out.old (Old.refl wc).drew)
                clear HRS d0 d1 hlt hls
                change wpList _ _ _ _ _ wc.drew
                generalize wc.drew = wd at *
                have d0 := cells_at (i := 0) HRSd.out.h10 rfl
                have d1 := cells_at (i := 1) HRSd.out.h10 rfl
                have hk63 : 3 * k + 2 < 9223372036854775807 := by omega
                go_upto_region 16 with fail
                have HRSA := Lib.hid (HRSd.out.old ((Old.refl wd).alloc (.cells #[.string t, .string su, .slice none 0 0, .slice none 0 0] 45)))
                obtain ⟨wA2, hwA2⟩ : ∃ x, wd.alloc (.cells #[.string t, .string su, .slice none 0 0, .slice none 0 0] 45) = x := ⟨_, rfl⟩
                rw [hwA2] at HRSA ⊢
                have HW := Lib.hid hwA2
                obtain ⟨bq, hbq⟩ : ∃ x, wd.heap.size = x := ⟨_, rfl⟩
                rw [hbq]
                have Hbq := Lib.hid hbq
                clear hwA2 hbq d0 d1
                have d0 := cells_at (i := 0) HRSA.out.h10 rfl
                have d1 := cells_at (i := 1) HRSA.out.h10 rfl
                go_wp2_with (first
                  | (refine wpList_update_mv rfl _ _ _ _ rfl 89 92 keyedPl plV (fun _ _ => plV_inj) Tryz.underlying84 bo _ _ rfl HRSA.out.gs.mo hk63 m.pl _ rfl hkP.out (.pointer (some ⟨bq, 0, none⟩)) rfl ?_; intro w3 hm3 hg3))
                rw [← HW.out] at hg3
                have HRS' := Lib.hid (HRSd.out.new (p := m.pl) t su (b := bq) Hbq.out hg3 hm3)
                clear hm3 hg3
                go_meet
                exact ⟨rfl, (fun q => if q = m.pl then bq else B q), (fun q => if q = m.pl then .slice none 0 0 else TV q), (fun q => if q = m.pl then .slice none 0 0 else SV q), (fun g => if g = bq then some m.pl else own g), by simp, by rw [Hmid.out]; exact HRS'.out⟩
            case rest =>
              clear HRS HoE HoE' HoA' HoC d0 d1
              obtain ⟨rfl, B2, TV2, SV2, own2, rfl, hRS⟩ := hcut
              obtain ⟨bp, hbp⟩ : ∃ x, B2 m.pl = x := ⟨_, rfl⟩
              obtain ⟨hE, hO⟩ := hRS.gs.ent m.pl _ (if_pos rfl)
              obtain ⟨at', ct, htv, htc1, htc2⟩ := ownsRow_form hE.tops
              obtain ⟨as', cs, hsv, hsc1, hsc2⟩ := ownsRow_form hE.sees
              rw [show (midE (M.take k) m).topics = topicsOf (M.take k) m.pl from rfl] at htv htc1
              rw [show (midE (M.take k) m).sees = seesOf (M.take k) m.pl from rfl] at hsv hsc1
              have e2 := cells_at (i := 2) hE.obj rfl
              have e3 := cells_at (i := 3) hE.obj rfl
              rw [hbp] at e2 e3 ⊢
              change _ = some (TV2 m.pl) at e2
              change _ = some (SV2 m.pl) at e3
              rw [htv] at e2
              rw [hsv] at e3
              have Hbp := Lib.hid hbp
              have HE := Lib.hid hE
              have HO := Lib.hid hO
              have Htv := Lib.hid htv
              have Hsv := Lib.hid hsv
              have HRS := Lib.hid hRS
              have hfb : bp ≠ fb := by
                intro e
                have h1 := hO.bl
                rw [hbp, e, hRS.gs.ff] at h1
                cases h1
              have hsl : (seesOf (M.take k) m.pl).length ≤ 100000 := Nat.le_trans (seesOf_length _ _) (by rw [List.length_take]; omega)
              have htl : (topicsOf (M.take k) m.pl).length ≤ 100000 := Nat.le_trans (topicsOf_length _ _) (by rw [List.length_take]; omega)
              have Hss : Hid (∀ s ∈ seesOf (M.take k) m.pl, s.size ≤ 4194304) := Lib.hid fun s hs => by
                obtain ⟨x, hx, _, _, rfl⟩ := seesOf_mem hs
                exact (Hsz.out x (List.mem_of_mem_take hx)).2.2
              have Hlim : Hid (EoM (M.take (k + 1)) = fun q => if q = m.pl then some (entOf (M.take (k + 1)) m.pl) else EoM (M.take k) q) := Lib.hid (by rw [Htk.out]; exact EoM_snoc _ _)
              have Hif : Hid (∀ e1 e2 : En, (fun q => if q = m.pl then some e2 else (fun q => if q = m.pl then some e1 else EoM (M.take k) q) q) = fun q => if q = m.pl then some e2 else EoM (M.take k) q) := Lib.hid fun e1 e2 => by
                funext q
                by_cases e : q = m.pl
                · simp [e]
                · simp [e]
              clear hbp hE hO htv hsv hRS
              generalize hsees : seesOf (M.take k) m.pl = sees at *
              generalize htops : topicsOf (M.take k) m.pl = tops at *
              have Hsees := Lib.hid hsees
              have Htops := Lib.hid htops
              clear hsees htops
              have hif0 : (fun q => if q = m.pl then some (midE (M.take k) m) else EoM (M.take k) q) m.pl = some (midE (M.take k) m) := if_pos rfl
              have Hif0 := Lib.hid hif0
              clear hif0
              rcases Hse.out with hz | hz
              · have d6 := cells_at (i := 6) HRS.out.h9 rfl
                change _ = some (Value.int .i64 m.see) at d6
                rw [hz] at d6
                have Hz := Lib.hid hz
                clear hz e2 e3
                have e2 := later (show wc.cell? ⟨bp, 2, none⟩ = some (.slice at' tops.length ct) from by
                  have h := cells_at (i := 2) HE.out.obj rfl
                  change _ = some (TV2 m.pl) at h
                  rw [Hbp.out, Htv.out] at h
                  exact h)
                have d0 := later (show wc.cell? ⟨g9, 0, none⟩ = some (.int .i64 m.topic) from cells_at (i := 0) HRS.out.h9 rfl)
                have HOI : Hid (OwnI 3 w wc (.slice at' tops.length ct) tops) := Lib.hid (by
                  have h := HE.out.tops
                  rw [Htv.out, show (midE (M.take k) m).topics = tops from Htops.out] at h
                  exact h)
                clear HE
                go_upto_region 21 with fail
                go_cut [15, 16, 118] (fun z _ t wx => z = .pointer (some ⟨bp, 0, none⟩) ∧ t = .bool (decide (¬ tops.getLast? = some m.topic)) ∧ Old wc wx)
                case first =>
                  have HdN : ∀ nq, Old wc (wc.drewN nq) := fun nq => ⟨rfl, rfl, rfl, Nat.le_refl _, fun _ _ => rfl⟩
                  rcases List.eq_nil_or_concat tops with h0 | ⟨tl, y, hy⟩
                  · have hl0 : tops.length = 0 := by rw [h0]; rfl
                    have Hd : Hid (decide (¬ tops.getLast? = some m.topic) = true) := Lib.hid (by rw [h0]; simp)
                    rw [hl0] at e2 ⊢
                    clear h0 hl0
                    go_quiet (fail)
                    go_wp2_with fail
                    go_meet
                    exact ⟨rfl, by rw [Hd.out], HdN _⟩
                  · have hln : tops.length = tl.length + 1 := by rw [hy]; simp
                    have hgl : tops.getLast? = some y := by rw [hy]; simp
                    obtain ⟨gt, rfl, _, _⟩ := OwnI.block HOI.out (by omega)
                    have hc := later (OwnI.cell HOI.out (k := tl.length) (by omega))
                    rw [show ix tops tl.length = y from by unfold ix; rw [hy]; simp [List.getD]] at hc
                    rw [hln] at e2 ⊢
                    have hne : (((tl.length + 1 : Nat) : Int) == 0) = false := by
                      rw [beq_eq_false_iff_ne]; omega
                    have hne' : (((tl.length : Int) + 1) == 0) = false := by
                      rw [beq_eq_false_iff_ne]; omega
                    have hw1 : IntKind.i64.wrap (tl.length : Int) = tl.length := IntWalk.i64_in _ (by omega)
                    have hw2 : IntKind.i64.wrap ((tl.length : Int) + 1 - 1) = tl.length := by rw [show (tl.length : Int) + 1 - 1 = tl.length from by omega]; exact hw1
                    have Hgl := Lib.hid hgl
                    have hlt0 : (0 : Int) ≤ tl.length := by omega
                    by_cases hyt : y = m.topic
                    · have Hd : Hid (decide (¬ tops.getLast? = some m.topic) = false) := Lib.hid (by rw [hgl, hyt]; simp)
                      have hb : (y != m.topic) = false := by rw [hyt]; simp
                      clear hy hln hgl hyt
                      go_quiet (fail)
                      go_wp2_with fail
                      go_meet
                      exact ⟨rfl, by rw [Hd.out], HdN _⟩
                    · have Hd : Hid (decide (¬ tops.getLast? = some m.topic) = true) := Lib.hid (by rw [hgl]; simp [hyt])
                      have hb : (y != m.topic) = true := by simpa using hyt
                      clear hy hln hgl hyt
                      go_quiet (fail)
                      go_wp2_with fail
                      go_meet
                      exact ⟨rfl, by rw [Hd.out], HdN _⟩
                case rest =>
                  clear HOI d6 e2 d0
                  obtain ⟨rfl, rfl, ow⟩ := hcut
                  have HRSd := Lib.hid (HRS.out.old ow)
                  clear HRS ow
                  obtain ⟨w4, rfl⟩ : ∃ x, x = wc := ⟨_, rfl⟩
                  have HG4 := Lib.hid HRSd.out.gs
                  have Hb4 := Lib.hid HRSd.out.box
                  have H94 := Lib.hid HRSd.out.h9
                  have Hlo4 := Lib.hid HRSd.out.lo
                  have Hob := Lib.hid HRSd.out.ob
                  clear HRSd
                  by_cases hl : tops.getLast? = some m.topic
                  · have Hent : Hid (EoM (M.take (k + 1)) = (fun q => if q = m.pl then some (midE (M.take k) m) else EoM (M.take k) q)) := Lib.hid (by
                      rw [Hlim.out, show entOf (M.take (k + 1)) m.pl = midE (M.take k) m from by rw [Htk.out]; exact ent_top_in Hz.out (by rw [Htops.out]; exact hl)])
                    rw [show decide (¬ tops.getLast? = some m.topic) = false from decide_eq_false (fun h => h hl)]
                    clear hl
                    go_wp2_with fail
                    go_roundg (gk - 1)
                    case measure => omega
                    case rel => exact ⟨k + 1, n1 + 2, B2, TV2, SV2, own2, by go_num, by omega, by omega, by omega, by rw [Hent.out]; exact HG4.out, Hb4.out, Hob.out, Hlo4.out⟩
                  · have Hent : Hid (EoM (M.take (k + 1)) = fun q => if q = m.pl then some { midE (M.take k) m with topics := tops ++ [m.topic] } else (fun q => if q = m.pl then some (midE (M.take k) m) else EoM (M.take k) q) q) := Lib.hid (by
                      rw [Hif.out, Hlim.out, show entOf (M.take (k + 1)) m.pl = { midE (M.take k) m with topics := tops ++ [m.topic] } from by rw [Htk.out, ← Htops.out]; exact ent_top_new Hz.out (by rw [Htops.out]; exact hl)])
                    rw [show decide (¬ tops.getLast? = some m.topic) = true from decide_eq_true hl]
                    obtain ⟨⟨t0, s0, x0, hobT⟩, hOwn, hgrT⟩ := HG4.out.topRow (p := m.pl) (e := midE (M.take k) m) (if_pos rfl) Hbp.out Htv.out (show (midE (M.take k) m).topics = tops from Htops.out) Hb4.out Hob.out Hlo4.out
                    have HobT := Lib.hid hobT
                    have HOwn := Lib.hid hOwn
                    have HgrT := Lib.hid (fun Z W g cap mm o1 o2 o3 o4 => hgrT Z W g cap mm m.topic _ o1 o2 o3 o4 Hent.out)
                    have d0 := later (show w4.cell? ⟨g9, 0, none⟩ = some (.int .i64 m.topic) from cells_at (i := 0) H94.out rfl)
                    have e2 := later (cells_at (i := 2) (hobT w4 w4 (Old.refl _) (World.grownBy.refl _ _)) rfl)
                    have hlo := Hlo4.out.size
                    clear hobT hOwn hgrT hl
                    go_upto_region 22 with fail
                    go_region_law (first
                      | (refine step_append_at (c := intE) (w0 := w) (by rfl) _ _ 42 (by rfl) 3 Tryz.underlying42 (.int .i64 0) infoIntK rfl (Nat.zero_lt_succ 0) (.slice at' tops.length ct) tops [m.topic] (by rfl) (HOwn.out _ (by repeat (first | exact Old.refl _ | refine Old.drew ?_ | refine Old.alloc ?_ _))) _ (by rfl) ((Recs.oneAt (c := intE) w4 3 m.topic rfl).old (Old.refl _).drew) (Nat.zero_lt_succ 0) (by simp; omega) (by simp; omega) (Nat.le_trans hlo (show Old w4 _ from (by repeat (first | exact Old.refl _ | refine Old.drew ?_ | refine Old.alloc ?_ _))).size) ?_; intro g5 cp5 w5 hown5 hg5 hat5 hlt5; have hob5 := HobT.out _ _ (show Old w4 _ from (by repeat (first | exact Old.refl _ | refine Old.drew ?_ | refine Old.alloc ?_ _))) hg5; have E3 := cells_at (i := 2) hob5 rfl; have F3 := frozen_at hob5 2; have HX := HgrT.out _ _ _ _ _ (show Old w4 _ from (by repeat (first | exact Old.refl _ | refine Old.drew ?_ | refine Old.alloc ?_ _))) hg5 hown5 hat5))
                    all_goals
                      obtain ⟨TV3, SV3, own3, x1, x2, x3, x4⟩ := HX
                      have X1 := Lib.hid x1
                      have X2 := Lib.hid x2
                      have X3 := Lib.hid x3
                      have X4 := Lib.hid x4
                      clear x1 x2 x3 x4 hob5 E3 F3 hown5 hg5 hat5
                      go_wp2_with fail
                      go_roundg (gk - 1)
                      case measure => omega
                      case rel => exact ⟨k + 1, n1 + 2, B2, TV3, SV3, own3, by go_num, by omega, by omega, by omega, X1.out, X3.out, X2.out, X4.out⟩
              · have d6 := cells_at (i := 6) HRS.out.h9 rfl
                change _ = some (Value.int .i64 m.see) at d6
                rw [hz] at d6
                have HCF := Lib.hid (containsFunc_any (.slice as' sees.length cs) sees m.aim w0 wc fb (n1 + 2) bx g9 (Hsv.out ▸ Hsees.out ▸ RecsF.of_own HE.out.sees (F := fun x => x = fb) (fun j hj _ _ e => by
                    have h1 := (HO.out.s j hj).1
                    rw [e, HRS.out.gs.ff] at h1
                    cases h1)) Hss.out (HRS.out.lo.base ho hb) hT hb HRS.out.gs.memo (by omega) hs3 (cells_at (i := 0) HRS.out.box rfl) (cells_at (i := 5) HRS.out.h9 rfl) HRS.out.x0.1 HRS.out.x9.1)
                have Hz := Lib.hid hz
                clear hz
                go_upto_if 87 with (go_at_call 82; refine HCF.out.mono ?_; rintro e w4 ⟨⟨r, rfl, hr⟩, hM4, o4⟩)
                have Hr := Lib.hid hr
                have HG4 := Lib.hid (HRS.out.gs.but o4 hM4)
                have Hb4 := Lib.hid (obj_but HRS.out.box o4 HRS.out.x0.1)
                have H94 := Lib.hid (obj_but HRS.out.h9 o4 HRS.out.x9.1)
                have Hlo4 := Lib.hid (HRS.out.lo.trans o4)
                have Hob := Lib.hid HRS.out.ob
                clear hr hM4 o4 d6 e2 e3 HCF HE HRS
                cases r with
                | true =>
                  have Hent : Hid (EoM (M.take (k + 1)) = (fun q => if q = m.pl then some (midE (M.take k) m) else EoM (M.take k) q)) := Lib.hid (by
                    rw [Hlim.out, show entOf (M.take (k + 1)) m.pl = midE (M.take k) m from by rw [Htk.out]; exact ent_see_in Hz.out (by rw [Hsees.out]; exact Hr.out.1 rfl)])
                  go_wp2_with fail
                  go_roundg (gk - 1)
                  case measure => omega
                  case rel => exact ⟨k + 1, n1 + 2 + 2 * sees.length, B2, TV2, SV2, own2, by go_num, by omega, by omega, by omega, by rw [Hent.out]; exact HG4.out, Hb4.out, Hob.out, Hlo4.out⟩
                | false =>
                  have Hent : Hid (EoM (M.take (k + 1)) = fun q => if q = m.pl then some { midE (M.take k) m with sees := sees ++ [m.aim] } else (fun q => if q = m.pl then some (midE (M.take k) m) else EoM (M.take k) q) q) := Lib.hid (by
                    rw [Hif.out, Hlim.out, show entOf (M.take (k + 1)) m.pl = { midE (M.take k) m with sees := sees ++ [m.aim] } from by rw [Htk.out, ← Hsees.out]; exact ent_see_new Hz.out (by rw [Hsees.out]; intro h; have := Hr.out.2 h; cases this)])
                  obtain ⟨⟨t0, s0, x0, hobS⟩, hOwn, hgrS⟩ := HG4.out.seeRow (p := m.pl) (e := midE (M.take k) m) (if_pos rfl) Hbp.out Hsv.out (show (midE (M.take k) m).sees = sees from Hsees.out) Hb4.out Hob.out Hlo4.out
                  have HobS := Lib.hid hobS
                  have HOwn := Lib.hid hOwn
                  have HgrS := Lib.hid (fun Z W g cap mm o1 o2 o3 o4 => hgrS Z W g cap mm m.aim _ o1 o2 o3 o4 Hent.out)
                  have d5 := later (show w4.cell? ⟨g9, 5, none⟩ = some (.string m.aim) from cells_at (i := 5) H94.out rfl)
                  have e3 := later (cells_at (i := 3) (hobS w4 w4 (Old.refl _) (World.grownBy.refl _ _)) rfl)
                  have hlo := Hlo4.out.size
                  clear hobS hOwn hgrS Hr
                  go_upto_region 19 with fail
                  go_region_law (first
                    | (refine step_append_at (c := txE) (w0 := w) (by rfl) _ _ 43 (by rfl) 9 Tryz.underlying43 (.string ⟨#[]⟩) infoStrK rfl (Nat.zero_lt_succ 0) (.slice as' sees.length cs) sees [m.aim] (by rfl) (HOwn.out _ (by repeat (first | exact Old.refl _ | refine Old.drew ?_ | refine Old.alloc ?_ _))) _ (by rfl) ((Recs.oneAt (c := txE) w4 9 m.aim rfl).old (Old.refl _).drew) (Nat.zero_lt_succ 0) (by simp; omega) (by simp; omega) (Nat.le_trans hlo (show Old w4 _ from (by repeat (first | exact Old.refl _ | refine Old.drew ?_ | refine Old.alloc ?_ _))).size) ?_; intro g5 cp5 w5 hown5 hg5 hat5 hlt5; have hob5 := HobS.out _ _ (show Old w4 _ from (by repeat (first | exact Old.refl _ | refine Old.drew ?_ | refine Old.alloc ?_ _))) hg5; have E3 := cells_at (i := 3) hob5 rfl; have F3 := frozen_at hob5 3; have HX := HgrS.out _ _ _ _ _ (show Old w4 _ from (by repeat (first | exact Old.refl _ | refine Old.drew ?_ | refine Old.alloc ?_ _))) hg5 hown5 hat5))
                  all_goals
                    obtain ⟨TV3, SV3, own3, x1, x2, x3, x4⟩ := HX
                    have X1 := Lib.hid x1
                    have X2 := Lib.hid x2
                    have X3 := Lib.hid x3
                    have X4 := Lib.hid x4
                    clear x1 x2 x3 x4 hob5 E3 F3 hown5 hg5 hat5
                    go_wp2_with fail
                    go_roundg (gk - 1)
                    case measure => omega
                    case rel => exact ⟨k + 1, n1 + 2 + 2 * sees.length, B2, TV3, SV3, own3, by go_num, by omega, by omega, by omega, X1.out, X3.out, X2.out, X4.out⟩
    · obtain rfl : k = M.length := by omega
      have hi : ¬ (M.length : Int) < M.length := by omega
      rw [List.take_length] at HG
      go_wp2_with fail
      go_ret
      exact ⟨⟨bt, bs, bo, n1, 3 * M.length, B, TV, SV, own, rfl, HG.out, hn1, Nat.le_refl _, hY.out.2.2.1⟩, HoF.out⟩
end Go.Proofs.YtohngjkedhpikaaGreatDoor
