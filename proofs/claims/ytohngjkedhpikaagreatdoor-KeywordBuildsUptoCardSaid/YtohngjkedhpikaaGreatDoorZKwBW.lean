/-
  KEYWORD, Y: the order of a see's Folds, as Build asks for it; the first fault's number alone.
-/
import Derived.Test.YtohngjkedhpikaaGreatDoorZKwS
import Derived.BigQuiet
import Derived.Test.YtohngjkedhpikaaGreatDoorZQuiet
import Derived.Test.YtohngjkedhpikaaGreatDoorZKwW
import Derived.Test.YtohngjkedhpikaaGreatDoorZKwQ
import Derived.Test.YtohngjkedhpikaaGreatDoorZKwH
import Derived.Test.YtohngjkedhpikaaGreatDoorZKwCp
namespace Go.Proofs.YtohngjkedhpikaaGreatDoor
open Go.RowKit Go.Maps
attribute [local go_sem] Old.refl Old.alloc Old.drew Old.setCell OldW.old

set_option maxHeartbeats 800000 in
theorem FCodeK_any (code : Int) (w : World) (hc : ¬ code = 0) :
    Calls Tryz.prog 39 #[.int .i64 code] w fun e w' => (∃ v, e = .returned v ∧ IsErr w' v code 0 0 0 ⟨#[]⟩) ∧ Old w w' := by
  have HN := Lib.hid (FNew_any code 0 0 0 ⟨#[]⟩ w hc)
  go_enter Tryz.func39, Tryz.ntmps39
  go_wp2_with (go_at_call 81; refine HN.out.mono ?_; rintro e w1 ⟨⟨v, rfl, hE⟩, o1⟩)
  go_ret
  exact ⟨⟨_, rfl, hE⟩, o1⟩
set_option maxRecDepth 100000 in
set_option maxHeartbeats 1600000 in
theorem Build1_any (s t : ByteArray) (w : World) (bx fb n : Nat) (F : ByteArray → Option ByteArray) (hT : Tabs w) (hb : w.cell? ⟨bx, 0, none⟩ = some (.map (some fb))) (hM : Memo w fb n F) (hs : F s = some (foldS s)) (ht : F t = some (foldS t)) (hs1 : s.size ≤ 4194304) (ht1 : t.size ≤ 4194304) (hs2 : (foldS s).size ≤ 4194304) (ht2 : (foldS t).size ≤ 4194304) :
    Calls Tryz.prog 46 #[.string s, .string t, .pointer (some ⟨bx, 0, none⟩)] w fun e w' => e = .returned (.int .i64 (cmpS s t)) ∧ Old w w' := by
  have hb' := later hb
  have H1 := Lib.hid (fun (V : OldW w) => of_known s _ V.w' fb n F (hM.old V.old) hs hs1)
  have H2 := Lib.hid (fun (V : OldW w) => of_known t _ V.w' fb n F (hM.old V.old) ht ht1)
  have HC := Lib.hid (fun (V : OldW w) => Compare_any (foldS s) (foldS t) V.w' (hT.old V.old) hs2 ht2)
  have Hc := Lib.hid (show cmpS s t = compareT (foldS s) (foldS t) from rfl)
  clear hb hM hs ht hs1 ht1 hs2 ht2 hT
  go_enter Tryz.func46, Tryz.ntmps46
  go_upto_region 1 with fail
  refine wp_region_old (Old.refl _) (by kernel_rfl) (by kernel_rfl) ?_
  repeat (go_big_quiet_step (first | with_reducible exact Calls.in_old (H1.out _) | with_reducible exact Calls.in_old (H2.out _) | with_reducible exact Calls.in_old (HC.out _)))
  refine wpQuiet_nil ?_
  rintro ⟨wq, hq⟩
  dsimp only
  go_wp2_with fail
  go_ret
  exact ⟨by rw [Hc.out]; rfl, hq⟩
end Go.Proofs.YtohngjkedhpikaaGreatDoor
/-
  KEYWORD, BW: the entries being put in order: what lies where; what is kept.
-/




namespace Go.Proofs.YtohngjkedhpikaaGreatDoor
open Go.RowKit Go.Maps

/-- nobody owns what is older than the entries, or beyond the world's end -/
theorem GS.cut2 {w0 w : World} {fb bt bs bo n k : Nat} {T : ByteArray → Option ByteArray} {Sb : Pl → Option ByteArray} {Eo : Pl → Option En} {B : Pl → Nat} {TV SV : Pl → Value} {own : Nat → Option Pl} (h : GS w0 w fb bt bs bo n k T Sb Eo B TV SV own) :
    GS w0 w fb bt bs bo n k T Sb Eo B TV SV (fun g => if w0.heap.size ≤ g ∧ g < w.heap.size then own g else none) := by
  have hn : ∀ g, own g = none → (if w0.heap.size ≤ g ∧ g < w.heap.size then own g else none) = none := fun g e => by
    split
    · exact e
    · rfl
  refine ⟨h.memo, h.mt, h.ms, h.mo, fun p e he => ?_, hn _ h.ff, hn _ h.ft, hn _ h.fs, hn _ h.fo, h.d1, h.d2, h.d3, h.d4, h.d5, h.d6⟩
  obtain ⟨hE, hO⟩ := h.ent p e he
  have ht := fun g hg => World.ownsRow.lt hE.tops g hg
  have hs := fun g hg => World.ownsRow.lt hE.sees g hg
  refine ⟨hE, ⟨?_, fun g hg => ⟨?_, (hO.t g hg).2⟩, fun g hg => ⟨?_, (hO.s g hg).2⟩, hO.ap⟩⟩
  · show (if w0.heap.size ≤ B p ∧ B p < w.heap.size then own (B p) else none) = some p
    rw [if_pos ⟨hE.base, hE.lt⟩]; exact hO.bl
  · show (if w0.heap.size ≤ g ∧ g < w.heap.size then own g else none) = some p
    rw [if_pos (ht g hg)]; exact (hO.t g hg).1
  · show (if w0.heap.size ≤ g ∧ g < w.heap.size then own g else none) = some p
    rw [if_pos (hs g hg)]; exact (hO.s g hg).1
structure BW (w1 w0 w : World) (fb bt bs bo bx n k : Nat) (T : ByteArray → Option ByteArray) (Sb : Pl → Option ByteArray) (Eo : Pl → Option En) (B : Pl → Nat) (TV SV : Pl → Value) (own : Nat → Option Pl) (F : ByteArray → Option ByteArray) (ul : Value) (L : List Pl) (u : Value) (xs : List Er) : Prop where
  gs : GS w0 w fb bt bs bo n k T Sb Eo B TV SV own
  memo : Memo w fb n F
  box : w.heap[bx]? = some (.cells #[.map (some fb)] 83 (0, 0))
  obx : own bx = none
  pl : OwnS plcE 89 w0 w ul L
  opl : ∀ g, ul.ownBlock = some g → own g = none
  out : OwnS erE 45 w0 w u xs
  ou : ∀ g, u.ownBlock = some g → own g = none ∧ g ≠ fb ∧ g ≠ bt ∧ g ≠ bs ∧ g ≠ bo ∧ g ≠ bx ∧ ul.ownBlock ≠ some g
  old : Old w1 w
  sz : w0.heap.size ≤ w.heap.size
  s1 : w1.heap.size ≤ w0.heap.size
  ocut : ∀ g, w.heap.size ≤ g → own g = none
section
variable {w1 w0 w W : World} {fb bt bs bo bx n k : Nat} {T : ByteArray → Option ByteArray} {Sb : Pl → Option ByteArray} {Eo : Pl → Option En} {B : Pl → Nat} {TV SV : Pl → Value} {own : Nat → Option Pl} {F : ByteArray → Option ByteArray} {ul : Value} {L : List Pl} {u : Value} {xs : List Er}
theorem BW.ol (h : BW w1 w0 w fb bt bs bo bx n k T Sb Eo B TV SV own F ul L u xs) (o : Old w W) : BW w1 w0 W fb bt bs bo bx n k T Sb Eo B TV SV own F ul L u xs :=
  ⟨h.gs.old o, h.memo.old o, obj_old h.box o, h.obx, h.pl.old o, h.opl, h.out.old o, h.ou, h.old.trans o, Nat.le_trans h.sz o.size, h.s1, fun g hg => h.ocut g (Nat.le_trans o.size hg)⟩
/-- out grows -/
theorem BW.app (h : BW w1 w0 w fb bt bs bo bx n k T Sb Eo B TV SV own F ul L u xs) (hg : w.grownBy W u.ownBlock) {u' : Value} {xs' : List Er} (hown : OwnS erE 45 w0 W u' xs') {g : Nat} (hu : u'.ownBlock = some g) (hat : u.ownBlock = some g ∨ g = w.heap.size) :
    BW w1 w0 W fb bt bs bo bx n k T Sb Eo B TV SV own F ul L u' xs' := by
  have hk := KeptX.of_grown (X := fun g => u.ownBlock = some g) hg fun g e => e
  have hul := fun g hg => (World.ownsRow.lt h.pl g hg).2
  have hbl := (Array.getElem?_eq_some_iff.1 h.box).1
  have l1 := h.gs.memo.lt
  have l2 := h.gs.mt.lt
  have l3 := h.gs.ms.lt
  have l4 := h.gs.mo.lt
  refine ⟨h.gs.kx hk fun g e => ?_, ⟨h.memo.mp.block (hk.block _ l1 fun e => ((h.ou _ e).2.1) rfl), h.memo.says⟩, ?_, h.obx, ?_, h.opl, hown, fun j hj => ?_, ?_, Nat.le_trans h.sz hg.size, h.s1, fun j hj => h.ocut j (Nat.le_trans hg.size hj)⟩
  · have := h.ou g e
    exact ⟨this.2.1, this.2.2.1, this.2.2.2.1, this.2.2.2.2.1, this.1⟩
  · rw [hk.block bx hbl fun e => (h.ou _ e).2.2.2.2.2.1 rfl]; exact h.box
  · exact ownsRow_block h.pl fun j hj => hk.block j (hul j hj) fun e => (h.ou j e).2.2.2.2.2.2 hj
  · obtain rfl : g = j := Option.some.inj (hu.symm.trans hj)
    rcases hat with e | e
    · exact h.ou g e
    · refine ⟨h.ocut g (by omega), by omega, by omega, by omega, by omega, by omega, fun e2 => ?_⟩
      have := hul g e2
      omega
  · exact h.old.grown hg fun j e => by
      have := (World.ownsRow.lt h.out j e).1
      have := h.s1
      omega
/-- an entry's sees are put in order where they lie -/
theorem BW.sort (h : BW w1 w0 w fb bt bs bo bx n k T Sb Eo B TV SV own F ul L u xs) {p : Pl} {e : En} (he : Eo p = some e) (hg : w.grownBy W (SV p).ownBlock) {l' : List ByteArray} (hown : OwnS txE 9 w0 W (SV p) l') :
    ∃ own', BW w1 w0 W fb bt bs bo bx n k T Sb (fun q => if q = p then some { e with sees := l' } else Eo q) B TV SV own' F ul L u xs := by
  obtain ⟨hE, hO⟩ := h.gs.ent p e he
  have hX : ∀ g, (SV p).ownBlock = some g → own g = some p := fun g hg => (hO.s g hg).1
  have hk : KeptX (fun g => own g = some p) w W := KeptX.of_grown hg hX
  have hE' : EntAt w0 W (B p) (TV p) (SV p) { e with sees := l' } := by
    refine ⟨hE.base, ?_, ?_, hown⟩
    · rw [hg.block _ hE.lt fun e1 => (hO.s _ e1.symm).2 rfl]; exact hE.obj
    · exact ownsRow_block hE.tops fun j hj => hg.block j (World.ownsRow.lt hE.tops j hj).2 fun e1 => hO.ap j hj e1.symm
  have hG := h.gs.put he hk hE' (fun g hg hv => by
    rcases hv with hv | hv
    · exact (hO.t g hv).1
    · exact (hO.s g hv).1) (fun g hv => by
    rcases hv with hv | hv
    · exact (hO.t g hv).2
    · exact (hO.s g hv).2) hO.ap
  have e1 : (fun q => if q = p then TV p else TV q) = TV := by funext q; by_cases e : q = p <;> simp [e]
  have e2 : (fun q => if q = p then SV p else SV q) = SV := by funext q; by_cases e : q = p <;> simp [e]
  rw [e1, e2] at hG
  have hG2 := hG.cut2
  have hsz := hg.size
  have hbl := (Array.getElem?_eq_some_iff.1 h.box).1
  have hno : ∀ g, own g = none → ¬ own g = some p := fun g e k => by rw [e] at k; cases k
  have hnn : ∀ g, g < w.heap.size → own g = none → (fun g => if w0.heap.size ≤ g ∧ g < W.heap.size then (fun g => if w.heap.size ≤ g then some p else own g) g else none) g = none := fun g hg hn => by
    show (if w0.heap.size ≤ g ∧ g < W.heap.size then (if w.heap.size ≤ g then some p else own g) else none) = none
    split
    · rw [if_neg (by omega)]; exact hn
    · rfl
  refine ⟨_, hG2, ⟨h.memo.mp.block (hk.block _ h.gs.memo.lt (hno _ h.gs.ff)), h.memo.says⟩, ?_, hnn _ hbl h.obx, ?_, ?_, ?_, ?_, ?_, Nat.le_trans h.sz hsz, h.s1, ?_⟩
  · rw [hk.block bx hbl (hno _ h.obx)]; exact h.box
  · exact ownsRow_block h.pl fun j hj => hk.block j (World.ownsRow.lt h.pl j hj).2 (hno _ (h.opl j hj))
  · exact fun j hj => hnn j (World.ownsRow.lt h.pl j hj).2 (h.opl j hj)
  · exact ownsRow_block h.out fun j hj => hk.block j (World.ownsRow.lt h.out j hj).2 (hno _ (h.ou j hj).1)
  · exact fun j hj => ⟨hnn j (World.ownsRow.lt h.out j hj).2 (h.ou j hj).1, (h.ou j hj).2⟩
  · exact h.old.grown hg fun j e => by
      have := (World.ownsRow.lt hE.sees j e).1
      have := h.s1
      omega
  · intro g hg
    show (if w0.heap.size ≤ g ∧ g < W.heap.size then (if w.heap.size ≤ g then some p else own g) else none) = none
    rw [if_neg (by omega)]
end
/-- the entries: those that were put in order, and the others -/
def EoL (M : List Mn) (D : List Pl) (q : Pl) : Option En := if q ∈ D then some (ixE M q) else EoM M q
theorem EoL_nil (M : List Mn) : EoL M [] = EoM M := by funext q; simp [EoL]
theorem EoL_snoc (M : List Mn) (D : List Pl) (p : Pl) : (fun q => if q = p then some { entOf M p with sees := srt cmpS (seesOf M p) } else EoL M D q) = EoL M (D ++ [p]) := by
  funext q
  unfold EoL
  by_cases e : q = p
  · subst e
    rw [if_pos rfl, if_pos (by simp)]; rfl
  · rw [if_neg e]
    have : q ∈ D ++ [p] ↔ q ∈ D := by simp [e]
    by_cases k : q ∈ D
    · rw [if_pos k, if_pos (this.2 k)]
    · rw [if_neg k, if_neg (fun x => k (this.1 x))]
theorem sees_one {M : List Mn} {p : Pl} : ∀ i j, i ∈ seesOf M p → j ∈ seesOf M p → cmpS i j = 0 → i = j := by
  intro i j hi hj h
  have hf := compareT_zero.1 h
  have hn := seesOf_folds (M := M) (p := p)
  obtain ⟨a, ha⟩ := List.getElem?_of_mem hi
  obtain ⟨b, hb⟩ := List.getElem?_of_mem hj
  have ha' : ((seesOf M p).map foldS)[a]? = some (foldS i) := by rw [List.getElem?_map, ha]; rfl
  have hb' : ((seesOf M p).map foldS)[b]? = some (foldS j) := by rw [List.getElem?_map, hb]; rfl
  have hab : a = b := by
    have la := (List.getElem?_eq_some_iff.1 ha').1
    have lb := (List.getElem?_eq_some_iff.1 hb').1
    refine (List.getElem_inj (h₀ := la) (h₁ := lb) hn).1 ?_
    rw [(List.getElem?_eq_some_iff.1 ha').2, (List.getElem?_eq_some_iff.1 hb').2, hf]
  subst hab
  exact Option.some.inj (ha.symm.trans hb)
/-- a slice value's parts -/
theorem EntAt.forms {w0 w : World} {b : Nat} {tv sv : Value} {e : En} (h : EntAt w0 w b tv sv e) : ∃ a2 c2 a3 c3, tv = .slice a2 e.topics.length c2 ∧ sv = .slice a3 e.sees.length c3 := by
  obtain ⟨a2, c2, h2, _⟩ := ownsRow_form (h.tops)
  obtain ⟨a3, c3, h3, _⟩ := OwnS.form h.sees
  exact ⟨a2, c2, a3, c3, h2, h3⟩
end Go.Proofs.YtohngjkedhpikaaGreatDoor
