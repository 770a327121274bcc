/-
  A TABLE's NAMES THAT BEGIN SO: Prefix.
-/
import Derived.Test.YtpifkinlaicliaaGreatDoorZShelfP
import Derived.Test.YtpifkinlaicliaaGreatDoorZFoldBig
import Derived.Deep.AppendLies
namespace Go.Proofs.YtpifkinlaicliaaGreatDoor
open Go.RowKit
attribute [local go_sem] Old.refl Old.alloc Old.drew Old.setCell OldW.old Oper.semAt_some

theorem nrm_at {l : List ByteArray} {i : Nat} (h : i < l.length) : nmAt (l.map nrm) i = nrm (nmAt l i) := by simp [nmAt, List.getD, h]
theorem wpListIn_append_intL {F : Fence} {n : Nat} {P : Program} {w0 w : World} {ops : Array Oper} {rest : List Oper} {o : Oper} {a : Act} {Q : Exit → Act → World → Prop}
    (hgd : o.guard = none) (s x : Operand) (T : TypeId) (ho : o.op = .call { callee := .builtin .append, args := #[s, x], argTypes := #[T, T] })
    (E : TypeId) (ht : P.underlying T = some (.slice E)) (hinfo : (P.info? E).map (fun i => (i.zero, i.size, i.bytes)) = some (some (.int .i64 0), 1, 8))
    (v : Value) (l : List Int) (hs : a.eval s = v) (hown : OwnI E w0 w v l) (g : Nat) (y : Int) (hx : a.eval x = .slice (some ⟨g, 0, none⟩) 1 1) (hc : w.cell? ⟨g, 0, none⟩ = some (.int .i64 y))
    (hbytes : (l.length + 1) * 8 ≤ 140737488355328) (hbase : w0.heap.size ≤ w.heap.size)
    (h : ∀ g' cap w', OwnI E w0 w' (.slice (some ⟨g', 0, none⟩) (l.length + 1) cap) (l ++ [y]) → w.grownBy w' v.ownBlock → (v.ownBlock = some g' ∨ w.heap.size ≤ g') → wpListIn F n P ops Q rest (a.put o.dst (.slice (some ⟨g', 0, none⟩) (l.length + 1) cap)) w') : wpListIn F n P ops Q (o :: rest) a w := by
  obtain ⟨i, hi, hz0, hz1, hz2⟩ := info_parts hinfo
  refine wpListIn_plain hgd fun K hK' => ?_
  obtain ⟨g', cap, w', hrun, r1, r2, r3, _⟩ := run_append_lies (P := P) w T o.type w0.heap.size E i (.int .i64 0) 1 8 ht hi hz0 hz1 hz2 rfl (by decide) v l.length (l.map (.int .i64)) hown ⟨g, 0, none⟩ 1 1 [.int .i64 y] rfl (by
    intro j u hu
    obtain rfl : j = 0 := by
      have := (List.getElem?_eq_some_iff.1 hu).1
      simpa using this
    simp at hu
    subst hu
    rw [Addr.add_lit]
    exact hc) (by simp [Value.oneCell']) (by decide) (by simp [maxLen]; omega) hbytes hbase w.heap.size rfl
  unfold Oper.wpIn
  refine ⟨?_, ?_⟩
  · simp [Oper.about, ho, resolve, Target.leads, Sem.run_pure]
  · rw [Oper.semAt_plain F _ _ (by rw [ho]; intro c hc'; cases hc')]
    simp [execOp, ho, resolve, invoke, builtin, hs, hx, hrun, Result.andThen]
    exact hK' _ _ (h g' cap w' (by unfold OwnI; rw [List.map_append, List.length_append]; exact r1) r2 (r3.imp id fun e => by omega))
set_option maxRecDepth 100000 in
set_option maxHeartbeats 800000 in
theorem Prefix_bad (p : Option Addr) (l : List ByteArray) (s : ByteArray) (w : World) (hT : Tabs w) (hp : (plainAt s.data.toList 0).2 = false) :
    Calls Tryz.prog 15 #[.pointer p, .string s] w fun e w' => RetI w w' e (prefixL l s) ∧ Old w w' := by
  have HP := Lib.hid (Plain_any s _ (hT.old ((Old.refl w).alloc (.cells #[.pointer p] 24))))
  rw [hp] at HP
  have Hr : Hid (prefixL l s = []) := Lib.hid (if_pos hp)
  clear hT hp
  go_enter Tryz.func15, Tryz.ntmps15
  go_wp2_with (go_at_call 32; refine HP.out.mono ?_; rintro e w1 ⟨rfl, o1⟩)
  go_ret
  exact ⟨⟨_, rfl, by rw [Hr.out]; exact OwnI.nil _ _ _⟩, ((Old.refl w).alloc _).trans o1⟩
set_option maxRecDepth 100000 in
set_option maxHeartbeats 2000000 in
theorem Prefix_good (p : Option Addr) (l : List ByteArray) (hl : Named l) (s : ByteArray) (hs : s.size ≤ 140737488351232) (w : World) (hT : Tabs w) (h : Hdl w p l) (hp : (plainAt s.data.toList 0).2 = true) :
    Calls Tryz.prog 15 #[.pointer p, .string s] w fun e w' => RetI w w' e (prefixL l s) ∧ Old w w' := by
  have Hr : Hid (prefixL l s = (sortedL l).filter fun i => begins (nrm (nmAt l i)) (foldS s)) := Lib.hid (if_neg (by rw [hp]; decide))
  have HP := Lib.hid (Plain_any s _ (hT.old ((Old.refl w).alloc (.cells #[.pointer p] 24))))
  have HF := Lib.hid (fun V (o : Old w V) => Fold_big s V (hT.old o) hs)
  rw [hp] at HP
  have HT := Lib.hid hT
  have HH := Lib.hid h
  have Hl := Lib.hid hl
  have hlen := hl.len
  generalize foldS s = f at *
  clear hT h hl hp
  generalize (plainAt s.data.toList 0).1 = q0 at *
  refine (callsIn_wide (n := 9)).1 ?_
  refine callsIn_of_wp_marks Tryz.func15 rfl trivial ?_ rfl
  simp only [Tryz.ntmps15, List.size_toArray, List.length_cons, List.length_nil, Nat.reduceAdd, Nat.reduceSub, Array.replicate_succ, Array.replicate_zero, List.push_toArray, List.append_toArray, List.nil_append, List.cons_append]
  refine wpIn_wide.2 ?_
  go_wp2_with (first
    | (go_at_call 32; refine HP.out.mono ?_; rintro e w1 ⟨rfl, o1⟩; have ow1 := ((Old.refl w).alloc (.cells #[.pointer p] 24)).trans o1; have cb : w1.cell? ⟨w.heap.size, 0, none⟩ = some (.pointer p) := o1.cell (by simp [go_sem]))
    | (go_at_call 33; refine (HF.out _ ow1).mono ?_; rintro e w2 ⟨rfl, o2⟩; have ow2 := ow1.trans o2; have cb2 := fun A B => (((Old.refl w2).alloc A).alloc B).cell (o2.cell cb))
    | (go_at_call 34; refine (Each_any _ _).mono ?_; rintro e w3 ⟨rfl, rfl⟩))
  generalize hbt : w.heap.size = bt at *
  have hbtw : bt < w1.heap.size := by have := o1.size; simp at this; omega
  have hbt2 : bt < w2.heap.size := Nat.lt_of_lt_of_le hbtw o2.size
  have hold0 : Old w (((w2.alloc (.cells #[.string f] 9)).alloc (.cells #[.slice none 0 0] 36)).alloc (.cells #[.pointer p] 24)) := ((ow2.alloc _).alloc _).alloc _
  have ct : (((w2.alloc (.cells #[.string f] 9)).alloc (.cells #[.slice none 0 0] 36)).alloc (.cells #[.pointer p] 24)).cell? ⟨bt, 0, none⟩ = some (.pointer p) := ((Old.refl _).alloc _).cell (cb2 _ _)
  have cf : (((w2.alloc (.cells #[.string f] 9)).alloc (.cells #[.slice none 0 0] 36)).alloc (.cells #[.pointer p] 24)).cell? ⟨w2.heap.size, 0, none⟩ = some (.string f) := by simp [go_sem]
  have cx : (((w2.alloc (.cells #[.string f] 9)).alloc (.cells #[.slice none 0 0] 36)).alloc (.cells #[.pointer p] 24)).cell? ⟨w2.heap.size + 1 + 1, 0, none⟩ = some (.pointer p) := by simp [go_sem]
  have bx0 : Boxed (((w2.alloc (.cells #[.string f] 9)).alloc (.cells #[.slice none 0 0] 36)).alloc (.cells #[.pointer p] 24)) (w2.heap.size + 1) 36 (.slice none 0 0) := by
    have h1 := Boxed.new (w2.alloc (.cells #[.string f] 9)) 36 (.slice none 0 0)
    rw [World.size_alloc] at h1
    exact h1.alloc _
  have hsz : (((w2.alloc (.cells #[.string f] 9)).alloc (.cells #[.slice none 0 0] 36)).alloc (.cells #[.pointer p] 24)).heap.size = w2.heap.size + 1 + 1 + 1 := by simp
  generalize (((w2.alloc (.cells #[.string f] 9)).alloc (.cells #[.slice none 0 0] 36)).alloc (.cells #[.pointer p] 24)) = W0 at *
  have hs2 : w.heap.size ≤ w2.heap.size := ow2.size
  have hown0 : ownOf (w2.heap.size + 1) W0 = none := by unfold ownOf; rw [bx0.cell]; rfl
  generalize hbf : w2.heap.size = bf at *
  refine (wpIn_wide (n := 9)).1 ?_
  refine wpIn_rangeFunc_ownF (F := Fence.wide) (n := 9) rfl (by decide) (gf := 66) (lb := #[.pointer (some ⟨bf + 1 + 1, 0, none⟩)]) rfl trivial (enters_of Tryz.func66 (by kernel_rfl) rfl)
    (Each1_stops 8 p l Hl.out w W0 W0.heap.size (bf + 1) (bf + 1) (bf + 1 + 1) HH.out HT.out hold0 (Nat.le_refl _) (by omega) (by omega) (by omega) (by omega) (by omega) (by omega) (by omega) (by omega) cx hown0)
    KpR.trans (KpR.putObj (Nat.le_refl _) (by omega)) (Below.refl _ _) (fun _ => rfl)
    (fun pre W => (∃ u, Boxed W (bf + 1) 36 u ∧ W.ownsRow W0.heap.size 3 1 u (((pre.map Fin.val).filter fun i => begins (nrm (nmAt l i)) f).map Int.ofNat).length ((((pre.map Fin.val).filter fun i => begins (nrm (nmAt l i)) f).map Int.ofNat).map (.int .i64)) ∧ True) ∧ KpR W0.heap.size (bf + 1) (bf + 1) W0 W)
    (fun _ _ _ => False)
    (OwnFrom.and (Own.from (holdsRow_own W0.heap.size (bf + 1) 36 3 1 (fun pre : List (Fin l.length) => (((pre.map Fin.val).filter fun i => begins (nrm (nmAt l i)) f).map Int.ofNat).length) (fun pre : List (Fin l.length) => (((pre.map Fin.val).filter fun i => begins (nrm (nmAt l i)) f).map Int.ofNat).map (.int .i64)) (fun _ _ => True)) _) (ownFrom_kpr (Nat.le_refl _) (by omega) (Nat.le_refl _)))
    (fun _ _ _ _ _ hs _ _ => hs)
    ⟨⟨_, bx0, World.ownsRow_nil _ _ _ _, trivial⟩, KpR.refl _ _ _ _⟩
    (fun x => { tmps := #[.pointer p, .string s, .pointer (some ⟨bt, 0, none⟩), undef, .slice none 0 0, .int .i64 q0, .bool true, .pointer (some ⟨bf, 0, none⟩), .pointer (some ⟨bf + 1, 0, none⟩), .int .i64 x.val, .tuple #[.int .i64 q0, .bool true], .string s, .tuple #[.int .i64 q0, .bool true], .int .i64 q0, .bool true, .bool true, .bool false, .string s, .string f, .pointer p, .func (.func 66) #[] #[.pointer (some ⟨bf + 1 + 1, 0, none⟩)], .int .i64 x.val, .string (nmAt l x.val), undef, undef, undef, undef, undef, undef, undef, undef, undef, undef, undef, undef, undef, undef], defers := [] }) ?assign ?body ?done ?stop
  case assign =>
    intro y x W K hK
    unfold nmV
    gi_wp2
    exact hK
  case body =>
    rintro y pre ⟨x, hx⟩ W ⟨⟨u, hbox, hown, _⟩, hk⟩ hpl
    have hown : OwnI 3 W0 W u (((pre.map Fin.val).filter fun i => begins (nrm (nmAt l i)) f).map Int.ofNat) := hown
    have hl1 : (((pre.map Fin.val).filter fun i => begins (nrm (nmAt l i)) f).map Int.ofNat).length ≤ 1001 := by
      have := List.length_filter_le (fun i => begins (nrm (nmAt l i)) f) (pre.map Fin.val)
      rw [List.length_map] at this ⊢
      omega
    have oW : Old w W := hk.old hold0 (by omega) (by omega) (by omega)
    have hks := hk.size
    rcases HH.out with ⟨_, e⟩ | ⟨c, rfl, ht⟩
    · rw [e] at hx; exact absurd hx (Nat.not_lt_zero _)
    obtain ⟨v1, h10, hv1⟩ := ht.norms
    obtain ⟨b, off, cap, rfl, hc1, hc2, hN⟩ := hv1.at' (i := x) (by simpa using hx)
    have c1W := fun V (o : Old W V) => h10 V (oW.trans o)
    have nW := fun V (o : Old W V) => hN V (oW.trans o)
    have hxl : (x : Int) < l.length := by omega
    rw [List.length_map] at c1W
    have ctW := later ((hk.cell (p := ⟨bt, 0, none⟩) (by simp; omega) (by simp; omega) (by simp; omega)).trans ct)
    have cfW := later ((hk.cell (p := ⟨bf, 0, none⟩) (by simp; omega) (by simp) (by simp)).trans cf)
    have HB := Lib.hid (fun (V : OldW W) => (Tryz.strings_HasPrefix (nrm (nmAt l x)) f V.w').mono (fun e w' (h : _ ∧ w' = V.w') => (⟨h.1, h.2 ▸ Old.refl _⟩ : e = .returned (.bool (begins (nrm (nmAt l x)) f)) ∧ Old V.w' w')))
    have hsn : (pre ++ [(⟨x, hx⟩ : Fin l.length)]).map Fin.val = pre.map Fin.val ++ [x] := by rw [List.map_append]; rfl
    have Hsn := Lib.hid hsn
    rw [nrm_at hx] at nW
    clear hsn ht h10 hv1 hN
    cases hb : begins (nrm (nmAt l x)) f with
    | true =>
      have Hfs : Hid (((pre ++ [(⟨x, hx⟩ : Fin l.length)]).map Fin.val).filter (fun i => begins (nrm (nmAt l i)) f) = (pre.map Fin.val).filter (fun i => begins (nrm (nmAt l i)) f) ++ [x]) := Lib.hid (by rw [Hsn.out, List.filter_append]; congr 1; simp [hb])
      rw [hb] at HB
      clear hb Hsn
      generalize nrm (nmAt l x) = q at *
      generalize nmAt l x = nm at *
      dsimp only
      gi_wp2
      refine wpIn_region_old (Old.refl W) (by kernel_rfl) (by kernel_rfl) (by kernel_rfl) ?_
      repeat (go_big_quiet_step (with_reducible exact Calls.in_old (HB.out _)))
      refine wpQuiet_nil ?_
      rintro ⟨wq, hq⟩
      dsimp only
      have hboxq : Boxed wq (bf + 1) 36 u := (hq.block _ hbox.lt).trans hbox
      have hcq := hboxq.cell
      have hownq := hown.old hq
      have hqs := hq.size
      have hnr : some (bf + 1) ≠ u.ownBlock := hboxq.not_row (by decide) hownq
      gi_wp2_with (gi_at_builtin; refine wpListIn_append_intL (w0 := W0) rfl _ _ 36 rfl 3 Tryz.underlying36 infoInt _ _ rfl (hownq.alloc _) wq.heap.size x rfl (by simp [go_sem]) (by omega) (by simp; omega) ?_; intro g' cap' w3 hown3 hg3 hat3; have hb3 := (hboxq.alloc (.cells #[.int .i64 (x : Int)] 3)).kept hg3 hnr; have hc3 := hb3.cell; have hf3 := hb3.frozen)
      have hKp : KpR W0.heap.size (bf + 1) (bf + 1) W (w3.setCell ⟨bf + 1, 0, none⟩ (.slice (some ⟨g', 0, none⟩) ((((pre.map Fin.val).filter fun i => begins (nrm (nmAt l i)) f).map Int.ofNat).length + 1) cap')) :=
        ((KpR.of_old hq (by omega) hbox.lt).trans (KpR.of_old ((Old.refl wq).alloc _) (by omega) hboxq.lt)).trans (KpR.append (hboxq.alloc _).cell hc3 hg3 (by simp; omega) (fun k e => (World.ownsRow.lt hownq k e).1) rfl hat3)
      refine ⟨((((keepsOthers_old hq).trans (KeepsOthers.alloc _ _)).trans (keepsOthers_row (hownq.alloc _) hg3)).trans (KeepsOthers.setCell _ _ _)), ?_, ⟨⟨_, hb3.set _, ?_, trivial⟩, ?_⟩⟩
      · simpa using hKp
      · rw [Hfs.out, List.map_append]
        have h9 := ownsRow_setCell_below (a := ⟨bf + 1, 0, none⟩) hown3 (by show bf + 1 < W0.heap.size; omega) (.slice (some ⟨g', 0, none⟩) ((((pre.map Fin.val).filter fun i => begins (nrm (nmAt l i)) f).map Int.ofNat).length + 1) cap')
        simpa using h9
      · simpa using hk.trans hKp
    | false =>
      have Hfs : Hid (((pre ++ [(⟨x, hx⟩ : Fin l.length)]).map Fin.val).filter (fun i => begins (nrm (nmAt l i)) f) = (pre.map Fin.val).filter (fun i => begins (nrm (nmAt l i)) f)) := Lib.hid (by rw [Hsn.out, List.filter_append]; simp [hb])
      rw [hb] at HB
      clear hb Hsn
      generalize nrm (nmAt l x) = q at *
      generalize nmAt l x = nm at *
      dsimp only
      gi_wp2
      refine wpIn_region_old (Old.refl W) (by kernel_rfl) (by kernel_rfl) (by kernel_rfl) ?_
      repeat (go_big_quiet_step (with_reducible exact Calls.in_old (HB.out _)))
      refine wpQuiet_nil ?_
      rintro ⟨wq, hq⟩
      dsimp only
      have hboxq : Boxed wq (bf + 1) 36 u := (hq.block _ hbox.lt).trans hbox
      have hownq := hown.old hq
      have hKp : KpR W0.heap.size (bf + 1) (bf + 1) W wq := KpR.of_old hq (by omega) hbox.lt
      gi_wp2
      refine ⟨keepsOthers_old hq, hKp, ⟨⟨_, hboxq, ?_, trivial⟩, hk.trans hKp⟩⟩
      rw [Hfs.out]
      exact hownq
  case done =>
    rintro D xs W hD hxs ⟨⟨u, hbox, hown, _⟩, hk⟩ hK
    have hc := hbox.cell
    rw [hxs] at hown
    go_wp2_with fail
    refine ⟨by simp, .inl ⟨_, _, rfl, run_takeDeferred hK, ?_⟩⟩
    have h2 := KpR.putObj (n := W0.heap.size) (b1 := bf + 1) (b2 := bf + 1) (w := W0) (Nat.le_refl _) (by omega) W D _ (.deferred none) hD hK rfl rfl
    have hown' : OwnI 3 W0 (W.putObj D (.deferred none)) u (((sortedL l).filter fun i => begins (nrm (nmAt l i)) f).map Int.ofNat) := ownsRow_putObj hown _ hK rfl
    exact ⟨_, results_tmp rfl _ _ _, ⟨_, rfl, by rw [Hr.out]; exact hown'.lower hold0.size⟩, (hk.trans h2).old hold0 (by omega) (by omega) (by omega)⟩
  case stop =>
    rintro D c pre W _ _ h _
    exact h.elim
theorem Prefix_any (p : Option Addr) (l : List ByteArray) (hl : Named l) (s : ByteArray) (hs : s.size ≤ 140737488351232) (w : World) (hT : Tabs w) (h : Hdl w p l) :
    Calls Tryz.prog 15 #[.pointer p, .string s] w fun e w' => RetI w w' e (prefixL l s) ∧ Old w w' := by
  cases hp : (plainAt s.data.toList 0).2 with
  | false => exact Prefix_bad p l s w hT hp
  | true => exact Prefix_good p l hl s hs w hT h hp
end Go.Proofs.YtpifkinlaicliaaGreatDoor
