/-
  A TABLE's NAMES THAT ARE NEAR: Near.
-/
import Derived.Test.YtpifkinlaicliaaGreatDoorZPrefix
import Derived.Sort.CutIn
namespace Go.Proofs.YtpifkinlaicliaaGreatDoor
open Go.RowKit
attribute [local go_sem] Old.refl Old.alloc Old.drew Old.setCell OldW.old Oper.semAt_some

theorem ownFrom_boxed {β : Type} {B b : Nat} {T : TypeId} {v : β → Value} : OwnFrom B (fun (s : β) W => Boxed W b T (v s)) := by
  intro s W W' row hs hg hr
  refine hs.kept hg fun e => ?_
  obtain ⟨_, o, ho, hc⟩ := hr b e.symm
  rw [show W.heap[b]? = _ from hs] at ho
  obtain rfl := Option.some.inj ho
  cases hc
set_option maxRecDepth 100000 in
set_option maxHeartbeats 800000 in
theorem Near_bad (p : Option Addr) (l : List ByteArray) (s : ByteArray) (w : World) (hT : Tabs w) (he : ¬ (normR s).2 = 0) :
    Calls Tryz.prog 17 #[.pointer p, .string s] w fun e w' => RetI w w' e (nearL l s) ∧ Old w w' := by
  have HN := Lib.hid (Norm_any s _ (hT.old ((Old.refl w).alloc (.cells #[.pointer p] 24))))
  have Hr : Hid (nearL l s = []) := Lib.hid (if_neg he)
  have hne : ((normR s).2 != 0) = true := by simpa using he
  clear hT he
  generalize (normR s).1 = q at *
  generalize (normR s).2 = e0 at *
  go_enter Tryz.func17, Tryz.ntmps17
  go_wp2_with (go_at_call 20; refine HN.out.mono ?_; rintro e w1 ⟨rfl, o1⟩)
  go_ret
  exact ⟨⟨_, rfl, by rw [Hr.out]; exact OwnI.nil _ _ _⟩, (((Old.refl w).alloc _).trans o1).alloc _⟩
set_option maxRecDepth 100000 in
set_option maxHeartbeats 2000000 in
theorem Near_good (p : Option Addr) (l : List ByteArray) (hl : Named l) (s : ByteArray) (w : World) (hT : Tabs w) (h : Hdl w p l) (he : (normR s).2 = 0) :
    Calls Tryz.prog 17 #[.pointer p, .string s] w fun e w' => RetI w w' e (nearL l s) ∧ Old w w' := by
  have Hr : Hid (nearL l s = (nearF (fun i => apartS (nrm s) (nrm (nmAt l i))) (sortedL l)).2) := Lib.hid (if_pos he)
  have HN := Lib.hid (Norm_any s _ (hT.old ((Old.refl w).alloc (.cells #[.pointer p] 24))))
  rw [he] at HN
  rw [show (normR s).1 = nrm s from rfl] at HN
  have hsz : (nrm s).size ≤ 320 := normR_size s
  have HT := Lib.hid hT
  have HH := Lib.hid h
  have Hl := Lib.hid hl
  have hlen := hl.len
  clear hT h hl he
  generalize nrm s = q at *
  refine (callsIn_wide (n := 9)).1 ?_
  refine callsIn_of_wp_marks Tryz.func17 rfl trivial ?_ rfl
  simp only [Tryz.ntmps17, List.size_toArray, List.length_cons, List.length_nil, Nat.reduceAdd, Nat.reduceSub, Array.replicate_succ, Array.replicate_zero, List.push_toArray, List.append_toArray, List.nil_append, List.cons_append]
  refine wpIn_wide.2 ?_
  go_wp2_with (first
    | (go_at_call 20; refine HN.out.mono ?_; rintro e w1 ⟨rfl, o1⟩; have ow1 := ((Old.refl w).alloc (.cells #[.pointer p] 24)).trans o1; have cb := fun A B C => ((((Old.refl w1).alloc A).alloc B).alloc C).cell (o1.cell (show (w.alloc (.cells #[.pointer p] 24)).cell? ⟨w.heap.size, 0, none⟩ = some (.pointer p) by simp [go_sem])))
    | (go_at_call 34; refine (Each_any _ _).mono ?_; rintro e w3 ⟨rfl, rfl⟩))
  generalize hbt : w.heap.size = bt at *
  have hbtw : bt < w1.heap.size := by have := o1.size; simp at this; omega
  have hold0 : Old w ((((w1.alloc (.cells #[.string q] 9)).alloc (.cells #[.int .i64 4] 3)).alloc (.cells #[.slice none 0 0] 36)).alloc (.cells #[.pointer p] 24)) := (((ow1.alloc _).alloc _).alloc _).alloc _
  have ct : ((((w1.alloc (.cells #[.string q] 9)).alloc (.cells #[.int .i64 4] 3)).alloc (.cells #[.slice none 0 0] 36)).alloc (.cells #[.pointer p] 24)).cell? ⟨bt, 0, none⟩ = some (.pointer p) := ((Old.refl _).alloc _).cell (cb _ _ _)
  have cn : ((((w1.alloc (.cells #[.string q] 9)).alloc (.cells #[.int .i64 4] 3)).alloc (.cells #[.slice none 0 0] 36)).alloc (.cells #[.pointer p] 24)).cell? ⟨w1.heap.size, 0, none⟩ = some (.string q) := by simp [go_sem]
  have cx : ((((w1.alloc (.cells #[.string q] 9)).alloc (.cells #[.int .i64 4] 3)).alloc (.cells #[.slice none 0 0] 36)).alloc (.cells #[.pointer p] 24)).cell? ⟨w1.heap.size + 1 + 1 + 1, 0, none⟩ = some (.pointer p) := by simp [go_sem]
  have be0 : Boxed ((((w1.alloc (.cells #[.string q] 9)).alloc (.cells #[.int .i64 4] 3)).alloc (.cells #[.slice none 0 0] 36)).alloc (.cells #[.pointer p] 24)) (w1.heap.size + 1) 3 (.int .i64 4) := by
    have h1 := Boxed.new (w1.alloc (.cells #[.string q] 9)) 3 (.int .i64 4)
    rw [World.size_alloc] at h1
    exact (h1.alloc _).alloc _
  have bx0 : Boxed ((((w1.alloc (.cells #[.string q] 9)).alloc (.cells #[.int .i64 4] 3)).alloc (.cells #[.slice none 0 0] 36)).alloc (.cells #[.pointer p] 24)) (w1.heap.size + 1 + 1) 36 (.slice none 0 0) := by
    have h1 := Boxed.new ((w1.alloc (.cells #[.string q] 9)).alloc (.cells #[.int .i64 4] 3)) 36 (.slice none 0 0)
    rw [World.size_alloc, World.size_alloc] at h1
    exact h1.alloc _
  have hsz0 : ((((w1.alloc (.cells #[.string q] 9)).alloc (.cells #[.int .i64 4] 3)).alloc (.cells #[.slice none 0 0] 36)).alloc (.cells #[.pointer p] 24)).heap.size = w1.heap.size + 1 + 1 + 1 + 1 := by simp
  generalize ((((w1.alloc (.cells #[.string q] 9)).alloc (.cells #[.int .i64 4] 3)).alloc (.cells #[.slice none 0 0] 36)).alloc (.cells #[.pointer p] 24)) = W0 at *
  have hs2 : w.heap.size ≤ w1.heap.size := ow1.size
  have hown0 : ownOf (w1.heap.size + 1 + 1) W0 = none := by unfold ownOf; rw [bx0.cell]; rfl
  generalize hbf : w1.heap.size = bf at *
  refine (wpIn_wide (n := 9)).1 ?_
  refine wpIn_rangeFunc_ownF (F := Fence.wide) (n := 9) rfl (by decide) (gf := 66) (lb := #[.pointer (some ⟨bf + 1 + 1 + 1, 0, none⟩)]) rfl trivial (enters_of Tryz.func66 (by kernel_rfl) rfl)
    (Each1_stops 8 p l Hl.out w W0 W0.heap.size (bf + 1) (bf + 1 + 1) (bf + 1 + 1 + 1) HH.out HT.out hold0 (Nat.le_refl _) (by omega) (by omega) (by omega) (by omega) (by omega) (by omega) (by omega) (by omega) cx hown0)
    KpR.trans (KpR.putObj (Nat.le_refl _) (by omega)) (Below.refl _ _) (fun _ => rfl)
    (fun pre W => ((∃ u, Boxed W (bf + 1 + 1) 36 u ∧ W.ownsRow W0.heap.size 3 1 u ((nearF (fun i => apartS q (nrm (nmAt l i))) (pre.map Fin.val)).2.map Int.ofNat).length (((nearF (fun i => apartS q (nrm (nmAt l i))) (pre.map Fin.val)).2.map Int.ofNat).map (.int .i64)) ∧ True) ∧ Boxed W (bf + 1) 3 (.int .i64 ((nearF (fun i => apartS q (nrm (nmAt l i))) (pre.map Fin.val)).1 : Nat))) ∧ KpR W0.heap.size (bf + 1) (bf + 1 + 1) W0 W)
    (fun _ _ _ => False)
    (OwnFrom.and (OwnFrom.and (Own.from (holdsRow_own W0.heap.size (bf + 1 + 1) 36 3 1 (fun pre : List (Fin l.length) => ((nearF (fun i => apartS q (nrm (nmAt l i))) (pre.map Fin.val)).2.map Int.ofNat).length) (fun pre : List (Fin l.length) => ((nearF (fun i => apartS q (nrm (nmAt l i))) (pre.map Fin.val)).2.map Int.ofNat).map (.int .i64)) (fun _ _ => True)) _) ownFrom_boxed) (ownFrom_kpr (Nat.le_refl _) (by omega) (Nat.le_refl _)))
    (fun _ _ _ _ _ hs _ _ => hs)
    ⟨⟨⟨_, bx0, World.ownsRow_nil _ _ _ _, trivial⟩, be0⟩, KpR.refl _ _ _ _⟩
    (fun x => { tmps := #[.pointer p, .string s, .pointer (some ⟨bt, 0, none⟩), undef, .slice none 0 0, .pointer (some ⟨bf, 0, none⟩), .int .i64 0, .pointer (some ⟨bf + 1, 0, none⟩), .pointer (some ⟨bf + 1 + 1, 0, none⟩), .int .i64 x.val, undef, .tuple #[.string q, .int .i64 0], .string s, .tuple #[.string q, .int .i64 0], .string q, .int .i64 0, .int .i64 0, .bool false, .pointer p, .func (.func 66) #[] #[.pointer (some ⟨bf + 1 + 1 + 1, 0, none⟩)], .int .i64 x.val, .string (nmAt l x.val), undef, undef, undef, undef, undef, undef, undef, undef, undef, undef, undef, undef, undef, undef, undef, undef, undef, undef, undef, undef, undef, undef, undef, undef, undef], defers := [] }) ?assign ?body ?done ?stop
  case assign =>
    intro y x W K hK
    unfold nmV
    gi_wp2
    exact hK
  case body =>
    rintro y pre ⟨x, hx⟩ W ⟨⟨⟨u, hbox, hown, _⟩, hbe⟩, hk⟩ hpl
    have hown : OwnI 3 W0 W u ((nearF (fun i => apartS q (nrm (nmAt l i))) (pre.map Fin.val)).2.map Int.ofNat) := hown
    have hsn : (pre ++ [(⟨x, hx⟩ : Fin l.length)]).map Fin.val = pre.map Fin.val ++ [x] := by rw [List.map_append]; rfl
    have hst : nearF (fun i => apartS q (nrm (nmAt l i))) ((pre ++ [(⟨x, hx⟩ : Fin l.length)]).map Fin.val) = nearStep (fun i => apartS q (nrm (nmAt l i))) (nearF (fun i => apartS q (nrm (nmAt l i))) (pre.map Fin.val)) x := by rw [hsn, nearF_snoc]
    have hm4 : (nearF (fun i => apartS q (nrm (nmAt l i))) (pre.map Fin.val)).1 ≤ 4 := by rw [nearF_eq]; exact (leastF_le _).1
    have hl1 : ((nearF (fun i => apartS q (nrm (nmAt l i))) (pre.map Fin.val)).2.map Int.ofNat).length ≤ 1001 := by
      rw [nearF_eq, List.length_map]
      have := List.length_filter_le (fun i => decide (leastF (fun i => apartS q (nrm (nmAt l i))) (pre.map Fin.val) < 4) && decide ((fun i => apartS q (nrm (nmAt l i))) i = leastF (fun i => apartS q (nrm (nmAt l i))) (pre.map Fin.val))) (pre.map Fin.val)
      rw [List.length_map] at this
      dsimp only at this ⊢
      omega
    have hnx : (nrm (nmAt l x)).size ≤ 320 := normR_size _
    have hd6 : apartS q (nrm (nmAt l x)) ≤ 320 := by
      have h1 := (levL_le (runesI q) (runesI (nrm (nmAt l x)))).1
      have h2 := runesI_len q
      have h3 := runesI_len (nrm (nmAt l x))
      unfold apartS
      omega
    have oW : Old w W := hk.old hold0 (by omega) (by omega) (by omega)
    have hks := hk.size
    rcases HH.out with ⟨_, e⟩ | ⟨c, rfl, ht⟩
    · rw [e] at hx; exact absurd hx (Nat.not_lt_zero _)
    obtain ⟨v1, h10, hv1⟩ := ht.norms
    obtain ⟨b, off, cap, rfl, hc1, hc2, hN⟩ := hv1.at' (i := x) (by simpa using hx)
    have c1W := fun V (o : Old W V) => h10 V (oW.trans o)
    have nW := fun V (o : Old W V) => hN V (oW.trans o)
    have hxl : (x : Int) < l.length := by omega
    rw [List.length_map] at c1W
    have ctW := later ((hk.cell (p := ⟨bt, 0, none⟩) (by simp; omega) (by simp; omega) (by simp; omega)).trans ct)
    have cnW := later ((hk.cell (p := ⟨bf, 0, none⟩) (by simp; omega) (by simp) (by simp; omega)).trans cn)
    have HA := Lib.hid (fun (V : OldW W) => (Apart_any q (nrm (nmAt l x)) V.w' (by omega) (by omega)))
    rw [nrm_at hx] at nW
    have hstep := hst
    unfold nearStep at hstep
    dsimp only at hstep
    rw [show levL (runesI q) (runesI (nrm (nmAt l x))) = apartS q (nrm (nmAt l x)) from rfl] at HA
    have Hst := Lib.hid hstep
    clear hst hstep hsn ht h10 hv1 hN hnx
    obtain ⟨d, hd⟩ : ∃ d, apartS q (nrm (nmAt l x)) = d := ⟨_, rfl⟩
    rw [hd] at hd6 HA
    simp only [hd] at Hst
    generalize nrm (nmAt l x) = qx at *
    generalize nmAt l x = nm at *
    generalize nearF (fun i => apartS q (nrm (nmAt l i))) (pre.map Fin.val) = P at *
    obtain ⟨m, xs⟩ := P
    dsimp only at *
    clear hd
    by_cases ha : d < m
    · have hP := Hst.out
      rw [if_pos ha] at hP
      have HP := Lib.hid hP
      have ha1 : (d : Int) < m := by omega
      have ha2 : (d : Int) < 4 := by omega
      clear Hst hP
      gi_wp2
      refine wpIn_region_old (Old.refl W) (by kernel_rfl) (by kernel_rfl) (by kernel_rfl) ?_
      repeat (go_big_quiet_step (with_reducible exact Calls.in_old (HA.out _)))
      refine wpQuiet_nil ?_
      rintro ⟨wq, hq⟩
      dsimp only
      have hboxq : Boxed wq (bf + 1 + 1) 36 u := (hq.block _ hbox.lt).trans hbox
      have hbeq : Boxed wq (bf + 1) 3 (.int .i64 (m : Nat)) := (hq.block _ hbe.lt).trans hbe
      have hownq := hown.old hq
      have hqs := hq.size
      have hcq := hboxq.cell
      have hce := hbeq.cell
      have hKq : KpR W0.heap.size (bf + 1) (bf + 1 + 1) W wq := KpR.of_old hq (by omega) hbox.lt
      have hfe := hbeq.frozen
      have hfq := hboxq.frozen
      have h1 : Boxed (wq.setCell ⟨bf + 1, 0, none⟩ (.int .i64 (d : Nat))) (bf + 1) 3 (.int .i64 (d : Nat)) := hbeq.set _
      have h2 : Boxed (wq.setCell ⟨bf + 1, 0, none⟩ (.int .i64 (d : Nat))) (bf + 1 + 1) 36 u := (heap_setCell_ne _ _ _ _ (by omega)).trans hboxq
      have h3 : Boxed ((wq.setCell ⟨bf + 1, 0, none⟩ (.int .i64 (d : Nat))).setCell ⟨bf + 1 + 1, 0, none⟩ (.slice none 0 0)) (bf + 1) 3 (.int .i64 (d : Nat)) := (heap_setCell_ne _ _ _ _ (by omega)).trans h1
      have h4 : Boxed ((wq.setCell ⟨bf + 1, 0, none⟩ (.int .i64 (d : Nat))).setCell ⟨bf + 1 + 1, 0, none⟩ (.slice none 0 0)) (bf + 1 + 1) 36 (.slice none 0 0) := h2.set _
      have hK3 : KpR W0.heap.size (bf + 1) (bf + 1 + 1) W ((wq.setCell ⟨bf + 1, 0, none⟩ (.int .i64 (d : Nat))).setCell ⟨bf + 1 + 1, 0, none⟩ (.slice none 0 0)) := (hKq.trans (KpR.set1 wq _ (by omega))).trans (KpR.set2 _ _ h2.cell rfl)
      have hKo : KeepsOthers W ((wq.setCell ⟨bf + 1, 0, none⟩ (.int .i64 (d : Nat))).setCell ⟨bf + 1 + 1, 0, none⟩ (.slice none 0 0)) := ((keepsOthers_old hq).trans (KeepsOthers.setCell _ _ _)).trans (KeepsOthers.setCell _ _ _)
      have hz : ((wq.setCell ⟨bf + 1, 0, none⟩ (.int .i64 (d : Nat))).setCell ⟨bf + 1 + 1, 0, none⟩ (.slice none 0 0)).heap.size = wq.heap.size := by simp
      have h2c := h2.cell
      have h2f := h2.frozen
      have h3c := h3.cell
      gi_upto_if 41 with fail
      have hzs : W0.heap.size ≤ ((wq.setCell ⟨bf + 1, 0, none⟩ (.int .i64 (d : Nat))).setCell ⟨bf + 1 + 1, 0, none⟩ (.slice none 0 0)).heap.size := by rw [hz]; omega
      clear h1 h2 h2c h2f h3c hfe hfq hcq hce hboxq hbeq hownq hqs hKq hz
      generalize ((wq.setCell ⟨bf + 1, 0, none⟩ (.int .i64 (d : Nat))).setCell ⟨bf + 1 + 1, 0, none⟩ (.slice none 0 0)) = V at *
      obtain ⟨z, hz⟩ : ∃ z, z = Value.slice none 0 0 := ⟨_, rfl⟩
      have hzo : z.ownBlock = none := by rw [hz]; rfl
      have hown4 : OwnI 3 W0 V z [] := by rw [hz]; exact OwnI.nil _ _ _
      rw [← hz] at h4
      clear hz
      have h4c := h4.cell
      have h4n := (h4.alloc (.cells #[.int .i64 (x : Int)] 3)).cell
      gi_wp2_with (gi_at_builtin; refine wpListIn_append_intL (w0 := W0) rfl _ _ 36 rfl 3 Tryz.underlying36 infoInt z [] rfl (hown4.alloc _) V.heap.size x rfl (by simp [go_sem]) (by simp) (by simp; omega) ?_; intro g' cap' w3 hown3 hg3 hat3; have hb3 := (h4.alloc (.cells #[.int .i64 (x : Int)] 3)).kept hg3 (by rw [hzo]; simp); have hb3e := (h3.alloc (.cells #[.int .i64 (x : Int)] 3)).kept hg3 (by rw [hzo]; simp); have hc3 := hb3.cell; have hf3 := hb3.frozen)
      have hKp : KpR W0.heap.size (bf + 1) (bf + 1 + 1) W (w3.setCell ⟨bf + 1 + 1, 0, none⟩ (.slice (some ⟨g', 0, none⟩) (([] : List Int).length + 1) cap')) :=
        (hK3.trans (KpR.of_old ((Old.refl _).alloc _) (by omega) h4.lt)).trans (KpR.append h4n hc3 hg3 (by simp; omega) (fun k e => by rw [hzo] at e; cases e) rfl hat3)
      refine ⟨((hKo.trans (KeepsOthers.alloc _ _)).trans (keepsOthers_row (hown4.alloc _) hg3)).trans (KeepsOthers.setCell _ _ _), ?_, ⟨⟨⟨_, hb3.set _, ?_, trivial⟩, ?_⟩, ?_⟩⟩
      · simpa using hKp
      · rw [HP.out]
        have h9 := ownsRow_setCell_below (a := ⟨bf + 1 + 1, 0, none⟩) hown3 (by show bf + 1 + 1 < W0.heap.size; omega) (.slice (some ⟨g', 0, none⟩) (([] : List Int).length + 1) cap')
        simpa using h9
      · rw [HP.out]
        exact (heap_setCell_ne _ _ _ _ (by omega)).trans hb3e
      · simpa using hk.trans hKp
    · by_cases hb : d = m ∧ d < 4
      · have hP := Hst.out
        rw [if_neg ha, if_pos hb] at hP
        have HP := Lib.hid hP
        obtain ⟨rfl, hb2⟩ := hb
        have ha2 : (d : Int) < 4 := by omega
        clear Hst hP ha
        gi_wp2
        refine wpIn_region_old (Old.refl W) (by kernel_rfl) (by kernel_rfl) (by kernel_rfl) ?_
        repeat (go_big_quiet_step (with_reducible exact Calls.in_old (HA.out _)))
        refine wpQuiet_nil ?_
        rintro ⟨wq, hq⟩
        dsimp only
        have hboxq : Boxed wq (bf + 1 + 1) 36 u := (hq.block _ hbox.lt).trans hbox
        have hbeq : Boxed wq (bf + 1) 3 (.int .i64 (d : Nat)) := (hq.block _ hbe.lt).trans hbe
        have hownq := hown.old hq
        have hqs := hq.size
        have hcq := hboxq.cell
        have hce := hbeq.cell
        have hKq : KpR W0.heap.size (bf + 1) (bf + 1 + 1) W wq := KpR.of_old hq (by omega) hbox.lt
        have hnr : some (bf + 1 + 1) ≠ u.ownBlock := hboxq.not_row (by decide) hownq
        gi_wp2_with (gi_at_builtin; refine wpListIn_append_intL (w0 := W0) rfl _ _ 36 rfl 3 Tryz.underlying36 infoInt _ _ rfl (hownq.alloc _) wq.heap.size x rfl (by simp [go_sem]) (by omega) (by simp; omega) ?_; intro g' cap' w3 hown3 hg3 hat3; have hb3 := (hboxq.alloc (.cells #[.int .i64 (x : Int)] 3)).kept hg3 hnr; have hb3e := (hbeq.alloc (.cells #[.int .i64 (x : Int)] 3)).kept hg3 (fun e => by have := (World.ownsRow.lt hownq _ e.symm).1; omega); have hc3 := hb3.cell; have hf3 := hb3.frozen)
        have hKp : KpR W0.heap.size (bf + 1) (bf + 1 + 1) W (w3.setCell ⟨bf + 1 + 1, 0, none⟩ (.slice (some ⟨g', 0, none⟩) ((xs.map Int.ofNat).length + 1) cap')) :=
          (hKq.trans (KpR.of_old ((Old.refl wq).alloc _) (by omega) hboxq.lt)).trans (KpR.append (hboxq.alloc _).cell hc3 hg3 (by simp; omega) (fun k e => (World.ownsRow.lt hownq k e).1) rfl hat3)
        refine ⟨((((keepsOthers_old hq).trans (KeepsOthers.alloc _ _)).trans (keepsOthers_row (hownq.alloc _) hg3)).trans (KeepsOthers.setCell _ _ _)), ?_, ⟨⟨⟨_, hb3.set _, ?_, trivial⟩, ?_⟩, ?_⟩⟩
        · simpa using hKp
        · rw [HP.out, List.map_append]
          have h9 := ownsRow_setCell_below (a := ⟨bf + 1 + 1, 0, none⟩) hown3 (by show bf + 1 + 1 < W0.heap.size; omega) (.slice (some ⟨g', 0, none⟩) ((xs.map Int.ofNat).length + 1) cap')
          simpa using h9
        · rw [HP.out]
          exact (heap_setCell_ne _ _ _ _ (by omega)).trans hb3e
        · simpa using hk.trans hKp
      · have hP := Hst.out
        rw [if_neg ha, if_neg hb] at hP
        have HP := Lib.hid hP
        have ha1 : ¬ (d : Int) < m := by omega
        clear Hst hP
        by_cases hdm : d = m
        · subst hdm
          have ha2 : ¬ (d : Int) < 4 := by omega
          clear ha1
          gi_wp2
          refine wpIn_region_old (Old.refl W) (by kernel_rfl) (by kernel_rfl) (by kernel_rfl) ?_
          repeat (go_big_quiet_step (with_reducible exact Calls.in_old (HA.out _)))
          refine wpQuiet_nil ?_
          rintro ⟨wq, hq⟩
          dsimp only
          have hboxq : Boxed wq (bf + 1 + 1) 36 u := (hq.block _ hbox.lt).trans hbox
          have hbeq : Boxed wq (bf + 1) 3 (.int .i64 (d : Nat)) := (hq.block _ hbe.lt).trans hbe
          have hownq := hown.old hq
          have hqs := hq.size
          have hcq := hboxq.cell
          have hce := hbeq.cell
          have hKq : KpR W0.heap.size (bf + 1) (bf + 1 + 1) W wq := KpR.of_old hq (by omega) hbox.lt
          gi_wp2
          refine ⟨keepsOthers_old hq, hKq, ⟨⟨⟨_, hboxq, ?_, trivial⟩, ?_⟩, hk.trans hKq⟩⟩
          · rw [HP.out]; exact hownq
          · rw [HP.out]; exact hbeq
        · have ha2 : ((d : Int) == (m : Int)) = false := by
            have : ¬ (d : Int) = m := by omega
            simpa using this
          gi_wp2
          refine wpIn_region_old (Old.refl W) (by kernel_rfl) (by kernel_rfl) (by kernel_rfl) ?_
          repeat (go_big_quiet_step (with_reducible exact Calls.in_old (HA.out _)))
          refine wpQuiet_nil ?_
          rintro ⟨wq, hq⟩
          dsimp only
          have hboxq : Boxed wq (bf + 1 + 1) 36 u := (hq.block _ hbox.lt).trans hbox
          have hbeq : Boxed wq (bf + 1) 3 (.int .i64 (m : Nat)) := (hq.block _ hbe.lt).trans hbe
          have hownq := hown.old hq
          have hqs := hq.size
          have hcq := hboxq.cell
          have hce := hbeq.cell
          have hKq : KpR W0.heap.size (bf + 1) (bf + 1 + 1) W wq := KpR.of_old hq (by omega) hbox.lt
          gi_wp2
          refine ⟨keepsOthers_old hq, hKq, ⟨⟨⟨_, hboxq, ?_, trivial⟩, ?_⟩, hk.trans hKq⟩⟩
          · rw [HP.out]; exact hownq
          · rw [HP.out]; exact hbeq
  case done =>
    rintro D xs W hD hxs ⟨⟨⟨u, hbox, hown, _⟩, _⟩, hk⟩ hK
    have hc := hbox.cell
    rw [hxs] at hown
    go_wp2_with fail
    refine ⟨by simp, .inl ⟨_, _, rfl, run_takeDeferred hK, ?_⟩⟩
    have h2 := KpR.putObj (n := W0.heap.size) (b1 := bf + 1) (b2 := bf + 1 + 1) (w := W0) (Nat.le_refl _) (by omega) W D _ (.deferred none) hD hK rfl rfl
    have hown' : OwnI 3 W0 (W.putObj D (.deferred none)) u ((nearF (fun i => apartS q (nrm (nmAt l i))) (sortedL l)).2.map Int.ofNat) := ownsRow_putObj hown _ hK rfl
    exact ⟨_, results_tmp rfl _ _ _, ⟨_, rfl, by rw [Hr.out]; exact hown'.lower hold0.size⟩, (hk.trans h2).old hold0 (by omega) (by omega) (by omega)⟩
  case stop =>
    rintro D c pre W _ _ h _
    exact h.elim
theorem Near_any (p : Option Addr) (l : List ByteArray) (hl : Named l) (s : ByteArray) (w : World) (hT : Tabs w) (h : Hdl w p l) :
    Calls Tryz.prog 17 #[.pointer p, .string s] w fun e w' => RetI w w' e (nearL l s) ∧ Old w w' := by
  by_cases he : (normR s).2 = 0
  · exact Near_good p l hl s w hT h he
  · exact Near_bad p l s w hT he
end Go.Proofs.YtpifkinlaicliaaGreatDoor
