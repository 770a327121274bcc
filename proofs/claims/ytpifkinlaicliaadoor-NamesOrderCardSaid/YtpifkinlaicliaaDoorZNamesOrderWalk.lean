/-
  NamesOrder: each number once, each name behind the one ahead: the walk.
-/
import Derived.Test.YtpifkinlaicliaaDoorZTextDigits
import Derived.Test.YtpifkinlaicliaaDoorZTextRefI
namespace Go.Proofs.YtpifkinlaicliaaDoor
open Go.RowKit
attribute [local go_sem] Old.refl Old.alloc Old.drew Old.setCell OldW.old

set_option maxRecDepth 100000 in
set_option maxHeartbeats 3200000 in
theorem namesOrder_row_walk (W : World) (hT : Tabs W) (l : List ByteArray) (v : Value) (hv : Txts W v l) (hz : l.length * 16 ≤ 140737488355328) :
    Calls Tryd.prog 4 #[v] W fun e w' => e = .returned (.bool true) ∧ Old W w' := by
  have Ha := Lib.hid (awake_any W hT)
  have HT := Lib.hid hT
  have Hv := Lib.hid hv
  obtain ⟨a, cap, rfl, hc1, hc2⟩ := hv.form
  clear hT hv
  by_cases he : (newR l).2 = 0
  · have hN := named_of he
    have hlen := hN.len
    have HN := Lib.hid (fun v2 w2 (h : Txts w2 v2 l) (o : Old W w2) => New_ok l v2 w2 h (HT.out.old o) he)
    have HS := Lib.hid (fun p V (o : Old W V) (h : Hdl V p l) => Sorted_any p l hN V (HT.out.old o) h)
    have hsl : ((sortedL l).map Int.ofNat).length = l.length := by rw [List.length_map, sortedL_length]
    have hlt0 : (sortedL l).length = l.length := sortedL_length l
    have Hlt := Lib.hid (fun i (h : i ∈ sortedL l) => sortedL_lt h)
    have Hnd := Lib.hid (show (sortedL l).Nodup from sortTo_nodup _)
    have Hst := Lib.hid (fun k (hk : k + 1 < l.length) => sortTo_strict (cN_ord l) hN.inj (k := k) hk)
    have Hst := Lib.hid (show ∀ k, k + 1 < l.length → cN l ((sortedL l).getD k 0) ((sortedL l).getD (k + 1) 0) < 0 from Hst.out)
    have H64 := Lib.hid (fun i (h : i < l.length) => (hN.at h).2.1)
    have hi : ¬ (1000 : Int) < l.length := by omega
    clear he hN
    generalize sortedL l = sl at *
    go_enter Tryd.func4, Tryd.ntmps4
    go_wp2_with (first
      | (go_at_call 9; refine Ha.out.mono ?_; rintro e w1 ⟨rfl, o1⟩)
      | (at_builtin; go_loud (refine wpList_append_recs (c := txE) (w0 := w1) rfl _ _ 22 rfl 9 Tryd.underlying22 _ infoTx rfl (Nat.zero_lt_succ 0) _ [] l rfl (OwnS.nil _ _ _ _) _ rfl (Hv.out.old o1).recs (by simp; omega) (by simp; omega) (Old.refl w1) ?_); intro v2 w2 hown2 ho2 hg2; obtain ⟨a2, c2, rfl, _, _⟩ := ownsRow_form hown2)
      | (go_at_call 10; refine (HN.out _ _ (Txts.of_recs hown2.recs) (o1.trans ho2)).mono ?_; rintro e w3 ⟨⟨c, b, n, u0, u1, rfl, ht⟩, o3⟩; have O3 := (o1.trans ho2).trans o3; have HD := Lib.hid (show Hdl w3 (some ⟨c, 0, none⟩) l from .inr ⟨c, rfl, ht.tab⟩); clear ht)
      | (go_at_call 15; refine (HS.out _ _ O3 HD.out).mono ?_; rintro e w4 ⟨⟨y4, rfl, hy4⟩, o4⟩; obtain ⟨a4, c4, rfl, _, _⟩ := ownsRow_form hy4; rw [hsl] at hy4; rw [hsl])
      | (at_make; go_loud (refine wpList_make_enc (c := boolE) (w0 := w4) rfl _ _ 35 rfl 4 Tryd.underlying35 (.bool false) infoBool rfl rfl false rfl l.length rfl rfl (by omega) (by omega) (Old.refl w4) ?_); intro w5 hB o45 s5))
    have O4 : Old W w4 := O3.trans o4
    have hG : w4.heap.size ≤ w4.heap.size := Nat.le_refl _
    generalize hGe : w4.heap.size = G at *
    have HI := Lib.hid hy4.ints
    have HB := Lib.hid hB
    clear hy4 hB hown2 ho2 hg2 HD HS HN Ha
    go_loopw [30] (fun kv wr => ∃ k : Nat, k ≤ l.length ∧ kv = .int .i64 k ∧ OwnS boolE 4 w4 wr (.slice (some ⟨G, 0, none⟩) l.length l.length) (flagsL l.length (sl.take k)) ∧ Old w4 wr) (fun kv _ => l.length - (intOf kv).toNat)
    case atStart => exact ⟨0, Nat.zero_le _, rfl, by rw [List.take_zero, flagsL_nil]; exact HB.out, o45⟩
    case round =>
      clear HB o45 s5
      obtain ⟨k, hk, rfl, hS, ho⟩ := hrel
      have HS := Lib.hid hS
      clear hS
      by_cases hlt : k < l.length
      · have hk1 : (k : Int) < l.length := by omega
        obtain ⟨_, _, b4, off4, e4, _, _, ha4, ht4⟩ := HI.out
        obtain ⟨rfl, hx4, rfl⟩ := Value.slice.inj e4
        clear hx4 e4
        obtain rfl := ha4 (by rw [hsl]; omega)
        have cO := fun k (hk : k < l.length) V (o : Old wr V) => ht4 k (by rw [hsl]; exact hk) V (ho.trans o)
        clear ht4 ha4
        have hix : ∀ k, k < l.length → ix (sl.map Int.ofNat) k = (sl.getD k 0 : Nat) := fun k hk => by simp [ix, List.getD, show k < sl.length from by omega]
        have cOk := cO k hlt
        rw [hix k hlt] at cOk
        have hmem : ∀ k, k < l.length → sl.getD k 0 ∈ sl := fun k hk => by
          rw [show sl.getD k 0 = sl[k]'(by omega) from by simp [List.getD, show k < sl.length from by omega]]
          exact List.getElem_mem _
        have hil := Hlt.out _ (hmem k hlt)
        have hnot : ¬ sl.getD k 0 ∈ sl.take k := by
          intro hm
          obtain ⟨j, hj, hj2⟩ := List.mem_iff_getElem.1 hm
          rw [List.length_take] at hj
          rw [List.getElem_take, show sl.getD k 0 = sl[k]'(by omega) from by simp [List.getD, show k < sl.length from by omega]] at hj2
          have := nodup_inj Hnd.out (by omega) (by omega) hj2
          omega
        obtain ⟨bl, offl, capl, el, _, _, hNi⟩ := Hv.out.at' hil
        obtain ⟨rfl, _, rfl⟩ := Value.slice.inj el
        have cNi := fun V (o : Old wr V) => hNi V (O4.trans (ho.trans o))
        have hfl : (flagsL l.length (sl.take k))[sl.getD k 0]? = some false := by rw [flagsL_get hil, decide_eq_false hnot]
        have cB := later (HS.out.cell (j := 0) (u := .bool false) hfl rfl)
        rw [show sl.getD k 0 * boolE.k + 0 = sl.getD k 0 from by show sl.getD k 0 * 1 + 0 = _; omega] at cB
        have s64 := H64.out _ hil
        have Htk := Lib.hid (take_snoc (l := sl) (k := k) (by omega))
        by_cases hk0 : k = 0
        · have hkp : decide (0 < k) = false := by rw [decide_eq_false_iff_not]; omega
          have Hk0 := Lib.hid hk0
          clear hk0
          have e1 := Lib.hid (show sl.getD k 0 * boolE.k + 0 = sl.getD k 0 from by show sl.getD k 0 * 1 + 0 = _; omega)
          generalize sl.getD k 0 = i at *
          have hi1 : (i : Int) < l.length := by omega
          have hi2 : decide (l.length ≤ i) = false := by rw [decide_eq_false_iff_not]; omega
          have hi3 : decide ((i : Int) < 0) = false := by rw [decide_eq_false_iff_not]; omega
          clear hmem hnot hix cO
          go_upto_region 13 with fail
          refine wp_region_old (Old.refl wr) (by kernel_rfl) (by kernel_rfl) ?_
          repeat (go_big_quiet_step (fail))
          refine wpQuiet_nil ?_
          rintro ⟨wq, hq⟩
          dsimp only
          have HS1 := Lib.hid (HS.out.old hq)
          have cB1 := HS1.out.cell (j := 0) (u := .bool false) hfl rfl
          rw [e1.out] at cB1
          have fB := HS1.out.frozen i
          have hset := HS1.out.stored (i := i) (j := 0) (x' := true) (u := .bool true) hfl (by decide) rfl
          rw [e1.out, flagsL_set] at hset
          have Hset := Lib.hid hset
          have hoq : Old w4 (wq.setCell ⟨G, i, none⟩ (.bool true)) := (ho.trans hq).setCell (p := ⟨G, i, none⟩) (by rw [hGe]; exact Nat.le_refl _) _
          clear hset HS cNi cB cOk
          go_wp2_with fail
          go_roundw
          case rel => exact ⟨k + 1, by omega, by go_num, by rw [Htk.out]; exact Hset.out, hoq⟩
          case measure => simp [intOf]; omega
        · obtain ⟨km, hkm⟩ : ∃ km, km + 1 = k := ⟨k - 1, by omega⟩
          have hkmi : (k : Int) - 1 = (km : Int) := by omega
          have hkw : IntKind.i64.wrap (km : Int) = (km : Int) := IntWalk.i64_in _ (by omega)
          have hkm1 : (km : Int) < l.length := by omega
          have hkp : decide (0 < k) = true := by rw [decide_eq_true_iff]; omega
          have cOm := cO km (by omega)
          rw [hix km (by omega)] at cOm
          have hjl := Hlt.out _ (hmem km (by omega))
          obtain ⟨bm, offm, capm, em, _, _, hNj⟩ := Hv.out.at' hjl
          obtain ⟨em1, _, rfl⟩ := Value.slice.inj em
          obtain ⟨rfl, rfl⟩ : bl = bm ∧ offl = offm := by
            injection em1 with em1
            injection em1 with em1 em2
            exact ⟨em1, em2⟩
          have cNj := fun V (o : Old wr V) => hNj V (O4.trans (ho.trans o))
          have sj := H64.out _ hjl
          have hlt' := Hst.out km (by omega)
          rw [hkm] at hlt'
          have hcv : compareT (nmAt l (sl.getD km 0)) (nmAt l (sl.getD k 0)) = -1 := by
            have h1 := (compareT_rng (nmAt l (sl.getD km 0)) (nmAt l (sl.getD k 0))).1
            have h2 : compareT (nmAt l (sl.getD km 0)) (nmAt l (sl.getD k 0)) < 0 := hlt'
            omega
          have HC := Lib.hid (fun (V : OldW wr) => RCompare_any (nmAt l (sl.getD km 0)) (nmAt l (sl.getD k 0)) V.w' (by omega) (by omega))
          rw [hcv] at HC
          have e1 := Lib.hid (show sl.getD k 0 * boolE.k + 0 = sl.getD k 0 from by show sl.getD k 0 * 1 + 0 = _; omega)
          clear hcv hlt' em em1 hmem hnot hix cO
          generalize sl.getD k 0 = i at *
          generalize sl.getD km 0 = j at *
          generalize nmAt l i = si at *
          generalize nmAt l j = sj' at *
          have hi1 : (i : Int) < l.length := by omega
          have hj1 : (j : Int) < l.length := by omega
          have hi2 : decide (l.length ≤ i) = false := by rw [decide_eq_false_iff_not]; omega
          have hi3 : decide ((i : Int) < 0) = false := by rw [decide_eq_false_iff_not]; omega
          go_upto_region 13 with fail
          refine wp_region_old (Old.refl wr) (by kernel_rfl) (by kernel_rfl) ?_
          repeat (go_big_quiet_step (with_reducible exact Calls.in_old (HC.out _)))
          refine wpQuiet_nil ?_
          rintro ⟨wq, hq⟩
          dsimp only
          have HS1 := Lib.hid (HS.out.old hq)
          have cB1 := HS1.out.cell (j := 0) (u := .bool false) hfl rfl
          rw [e1.out] at cB1
          have fB := HS1.out.frozen i
          have hset := HS1.out.stored (i := i) (j := 0) (x' := true) (u := .bool true) hfl (by decide) rfl
          rw [e1.out, flagsL_set] at hset
          have Hset := Lib.hid hset
          have hoq : Old w4 (wq.setCell ⟨G, i, none⟩ (.bool true)) := (ho.trans hq).setCell (p := ⟨G, i, none⟩) (by rw [hGe]; exact Nat.le_refl _) _
          clear hset HS cNi cB cOk
          go_wp2_with fail
          go_roundw
          case rel => exact ⟨k + 1, by omega, by go_num, by rw [Htk.out]; exact Hset.out, hoq⟩
          case measure => simp [intOf]; omega
      · obtain rfl : k = l.length := by omega
        have hk1 : ¬ (l.length : Int) < l.length := by omega
        clear HS
        go_wp2_with fail
        go_ret
        exact ⟨rfl, O4.trans ho⟩
  · have HN := Lib.hid (fun v2 w2 (h : Txts w2 v2 l) (o : Old W w2) => New_no l v2 w2 h (HT.out.old o) he)
    have hne : ((newR l).2 != 0) = true := by simpa using he
    clear he
    generalize newR l = q at *
    obtain ⟨q1, q2⟩ := q
    dsimp only at *
    go_enter Tryd.func4, Tryd.ntmps4
    go_wp2_with (first
      | (go_at_call 9; refine Ha.out.mono ?_; rintro e w1 ⟨rfl, o1⟩)
      | (at_builtin; go_loud (refine wpList_append_recs (c := txE) (w0 := w1) rfl _ _ 22 rfl 9 Tryd.underlying22 _ infoTx rfl (Nat.zero_lt_succ 0) _ [] l rfl (OwnS.nil _ _ _ _) _ rfl (Hv.out.old o1).recs (by simp; omega) (by simp; omega) (Old.refl w1) ?_); intro v2 w2 hown2 ho2 hg2; obtain ⟨a2, c2, rfl, _, _⟩ := ownsRow_form hown2)
      | (go_at_call 10; refine (HN.out _ _ (Txts.of_recs hown2.recs) (o1.trans ho2)).mono ?_; rintro e w3 ⟨rfl, o3⟩))
    go_ret
    exact ⟨rfl, (o1.trans ho2).trans o3⟩
end Go.Proofs.YtpifkinlaicliaaDoor
