/-
  NamesNear: what is near is as near as anything is, at most 3 steps, and nothing that is as near is left out: the walk.
-/
import Derived.Test.YtpifkinlaicliaaDoorZTextDigits
import Derived.Test.YtpifkinlaicliaaDoorZRInts
import Derived.Lib.MinMax
namespace Go.Proofs.YtpifkinlaicliaaDoor
open Go.RowKit
attribute [local go_sem] Old.refl Old.alloc Old.drew Old.setCell OldW.old
attribute [local go_sem high] Lib.run_min_ints

/-- how far each of the first k is -/
def farL (d : Nat → Nat) (k : Nat) : List Int := (List.range k).map fun i => (d i : Int)
theorem farL_len (d : Nat → Nat) (k : Nat) : (farL d k).length = k := by simp [farL]
theorem farL_succ (d : Nat → Nat) (k : Nat) : farL d (k + 1) = farL d k ++ [(d k : Int)] := by simp [farL, List.range_succ]
theorem farL_ix {d : Nat → Nat} {k i : Nat} (h : i < k) : ix (farL d k) i = d i := by simp [ix, farL, List.getD, h]
theorem least_succ (d : Nat → Nat) (k : Nat) : leastF d (List.range (k + 1)) = min (leastF d (List.range k)) (d k) := by rw [List.range_succ, leastF_snoc]
theorem filter_yes {p : Nat → Bool} {i : Nat} (h : p i = true) : [i].filter p = [i] := by simp [h]
theorem filter_no {p : Nat → Bool} {i : Nat} (h : ¬ p i = true) : [i].filter p = [] := by simp [h]
set_option maxRecDepth 100000 in
set_option maxHeartbeats 3200000 in
theorem namesNear_row_walk (W : World) (hT : Tabs W) (l : List ByteArray) (v : Value) (hv : Txts W v l) (hz : l.length * 16 ≤ 140737488355328) (yl : l.length ≤ 1048576) (_yl' : ∀ i, (l.getD i ⟨#[]⟩).size ≤ 1048576) (s : ByteArray) (_hs : s.size ≤ 9223372036854775807) (_ys : s.size ≤ 1048576) :
    Calls Tryd.prog 6 #[v, .string s] W fun e w' => e = .returned (.bool true) ∧ Old W w' := by
  have Ha := Lib.hid (awake_any W hT)
  have HT := Lib.hid hT
  have Hv := Lib.hid hv
  obtain ⟨a, cap, rfl, hc1, hc2⟩ := hv.form
  have HNs := Lib.hid (fun V (o : Old W V) => Norm_any s V (hT.old o))
  clear hT hv
  by_cases he : (newR l).2 = 0
  · have hN := named_of he
    have HN := Lib.hid (fun v2 w2 (h : Txts w2 v2 l) (o : Old W w2) => New_ok l v2 w2 h (HT.out.old o) he)
    by_cases hn : (normR s).2 = 0
    · rw [hn] at HNs
      rw [show (normR s).1 = nrm s from rfl] at HNs
      by_cases h100 : 100 < l.length
      · have h100' : (100 : Int) < l.length := by omega
        clear he hN hn
        generalize nrm s = q at *
        go_enter Tryd.func6, Tryd.ntmps6
        go_wp2_with (first
          | (go_at_call 9; refine Ha.out.mono ?_; rintro e w1 ⟨rfl, o1⟩)
          | (at_builtin; go_loud (refine wpList_append_recs (c := txE) (w0 := w1) rfl _ _ 22 rfl 9 Tryd.underlying22 _ infoTx rfl (Nat.zero_lt_succ 0) _ [] l rfl (OwnS.nil _ _ _ _) _ rfl (Hv.out.old o1).recs (by simp; omega) (by simp; omega) (Old.refl w1) ?_); intro v2 w2 hown2 ho2 hg2; obtain ⟨a2, c2, rfl, _, _⟩ := ownsRow_form hown2)
          | (go_at_call 10; refine (HN.out _ _ (Txts.of_recs hown2.recs) (o1.trans ho2)).mono ?_; rintro e w3 ⟨⟨c, b, n, u0, u1, rfl, ht⟩, o3⟩; have O3 := (o1.trans ho2).trans o3)
          | (go_at_call 19; refine (HNs.out _ O3).mono ?_; rintro e w4 ⟨rfl, o4⟩))
        go_ret
        exact ⟨rfl, O3.trans o4⟩
      · have h100' : ¬ (100 : Int) < l.length := by omega
        obtain ⟨d, hd⟩ : ∃ d : Nat → Nat, (fun i => apartS (nrm s) (nrm (nmAt l i))) = d := ⟨_, rfl⟩
        have hdi : ∀ i, levL (runesI (nrm (nmAt l i))) (runesI (nrm s)) = d i := fun i => by rw [← hd, levL_comm]; rfl
        have hsz : (nrm s).size ≤ 320 := normR_size s
        have hd6 : ∀ i, d i ≤ 320 := fun i => by
          rw [← hdi i]
          have h1 := (levL_le (runesI (nrm (nmAt l i))) (runesI (nrm s))).1
          have h2 := runesI_len (nrm s)
          have h3 := runesI_len (nrm (nmAt l i))
          have h4 : (nrm (nmAt l i)).size ≤ 320 := normR_size _
          omega
        have Hd6 := Lib.hid hd6
        have Hnl := Lib.hid (show nearL l s = (sortedL l).filter (fun i => decide (leastF d (sortedL l) < 4) && decide (d i = leastF d (sortedL l))) from by
          unfold nearL
          rw [if_pos hn, hd, nearF_eq])
        rw [leastF_perm (show (sortedL l).Perm (List.range l.length) from sortTo_perm _)] at Hnl
        have HM := Lib.hid (fun i V (o : Old W V) => Norm_any (nmAt l i) V (HT.out.old o))
        have HA := Lib.hid (fun i V => Apart_any (nrm (nmAt l i)) (nrm s) V (by have : (nrm (nmAt l i)).size ≤ 320 := normR_size _; omega) (by omega))
        have HA := Lib.hid (show ∀ i V, Calls Tryd.prog 17 #[.string (nrm (nmAt l i)), .string (nrm s)] V fun e w' => e = .returned (.int .i64 (d i : Nat)) ∧ Old V w' from fun i V => by have := HA.out i V; rw [hdi i] at this; exact this)
        have HS := Lib.hid (fun p V (o : Old W V) (h : Hdl V p l) => Sorted_any p l hN V (HT.out.old o) h)
        have HR := Lib.hid (fun p V (o : Old W V) (h : Hdl V p l) => Near_any p l hN s V (HT.out.old o) h)
        have Hnm := Lib.hid (fun i (hi : i < l.length) => (hN.at hi).1)
        have hsl : ((sortedL l).map Int.ofNat).length = l.length := by rw [List.length_map, sortedL_length]
        have hslen : (sortedL l).length = l.length := sortedL_length l
        have Hlt := Lib.hid (fun i (h : i ∈ sortedL l) => sortedL_lt h)
        clear hd hdi hd6 he hN hn hsz
        generalize nrm s = q at *
        generalize sortedL l = sl at *
        generalize nearL l s = nl at *
        go_enter Tryd.func6, Tryd.ntmps6
        go_wp2_with (first
          | (go_at_call 9; refine Ha.out.mono ?_; rintro e w1 ⟨rfl, o1⟩)
          | (at_builtin; go_loud (refine wpList_append_recs (c := txE) (w0 := w1) rfl _ _ 22 rfl 9 Tryd.underlying22 _ infoTx rfl (Nat.zero_lt_succ 0) _ [] l rfl (OwnS.nil _ _ _ _) _ rfl (Hv.out.old o1).recs (by simp; omega) (by simp; omega) (Old.refl w1) ?_); intro v2 w2 hown2 ho2 hg2; obtain ⟨a2, c2, rfl, _, _⟩ := ownsRow_form hown2)
          | (go_at_call 10; refine (HN.out _ _ (Txts.of_recs hown2.recs) (o1.trans ho2)).mono ?_; rintro e w3 ⟨⟨c, b, n, u0, u1, rfl, ht⟩, o3⟩; have O3 := (o1.trans ho2).trans o3; have HD := Lib.hid (show Hdl w3 (some ⟨c, 0, none⟩) l from .inr ⟨c, rfl, ht.tab⟩); clear ht)
          | (go_at_call 19; refine (HNs.out _ O3).mono ?_; rintro e w4 ⟨rfl, o4⟩))
        have O4 : Old W w4 := O3.trans o4
        have HD4 := Lib.hid (HD.out.old o4)
        clear hown2 ho2 hg2 HN Ha HD HNs
        go_loopw [10, 11, 48] (fun fv mv kv wr => ∃ k : Nat, k ≤ l.length ∧ kv = .int .i64 k ∧ OwnI 3 w4 wr fv (farL d k) ∧ mv = .int .i64 (leastF d (List.range k) : Nat) ∧ Old w4 wr) (fun _ _ kv _ => l.length - (intOf kv).toNat)
        case atStart => exact ⟨0, Nat.zero_le _, rfl, OwnI.nil _ _ _, rfl, Old.refl _⟩
        case round =>
          obtain ⟨k, hk, rfl, hown, rfl, ho⟩ := hrel
          have hfl := farL_len d k
          by_cases hlt : k < l.length
          · have hk1 : (k : Int) < l.length := by omega
            obtain ⟨bl, offl, capl, el, _, _, hNi⟩ := Hv.out.at' hlt
            obtain ⟨rfl, hxl, rfl⟩ := Value.slice.inj el
            clear hxl el
            have cNi := hNi wr (O4.trans ho)
            have HM1 := Lib.hid (fun V (o : Old w4 V) => HM.out k V (O4.trans o))
            rw [Hnm.out k hlt] at HM1
            have HA1 := Lib.hid (HA.out k)
            have Hup := Lib.hid (farL_succ d k)
            have Hls := Lib.hid (least_succ d k)
            have hdk := Hd6.out k
            have hle4 : leastF d (List.range k) ≤ 4 := (leastF_le _).1
            rw [show (normR (nmAt l k)).1 = nrm (nmAt l k) from rfl] at HM1
            clear hNi
            generalize nrm (nmAt l k) = qk at *
            generalize nmAt l k = sk at *
            generalize leastF d (List.range k) = m at *
            generalize d k = dk at *
            have hwk : IntKind.i64.wrap (k : Int) = (k : Int) := IntWalk.i64_in _ (by omega)
            have hlt1 : (farL d k ++ [(dk : Int)]).length = k + 1 := by rw [List.length_append, hfl]; rfl
            obtain ⟨fa, fc, rfl, _, _⟩ := ownsRow_form hown
            rw [hfl] at hown
            go_upto_region 16 with (first
              | (go_at_call 19; refine (HM1.out _ ho).mono ?_; rintro e w5 ⟨rfl, o5⟩; have O5 := ho.trans o5)
              | (go_at_call 17; with_reducible refine (HA1.out _).mono ?_; rintro e w6 ⟨rfl, o6⟩; have O6 := O5.trans o6)
              | (at_builtin; refine wpList_append_ints (w0 := w4) rfl _ _ 31 rfl 3 Tryd.underlying31 infoInt _ (farL d k) [(dk : Int)] rfl (((hown.old o5).old o6).alloc _) _ rfl (Ints.one _ _ (dk : Int)) (by simp; omega) (O6.alloc _) ?_; intro v7 w7 hown7 ho7 hg7; obtain ⟨a7, c7, rfl, hc71, hc72⟩ := ownsRow_form hown7))
            rw [hlt1] at hown7
            obtain ⟨g7, rfl, _, _⟩ := hown7.block (by rw [hlt1]; omega)
            have c7k := hown7.cell (k := k) (by rw [hlt1]; omega)
            rw [show ix (farL d k ++ [(dk : Int)]) k = (dk : Int) from by simp [ix, List.getD, hfl]] at c7k
            go_wp2_with fail
            go_roundw
            case rel => exact ⟨k + 1, by omega, by go_num, by rw [Hup.out]; exact hown7, by rw [Hls.out]; exact congrArg (Value.int .i64) (by omega), ho7⟩
            case measure => simp [intOf]; omega
          · obtain rfl : k = l.length := by omega
            have hk1 : ¬ (l.length : Int) < l.length := by omega
            have HI := Lib.hid hown.ints
            have hle4 : leastF d (List.range l.length) ≤ 4 := (leastF_le _).1
            have Hfx := Lib.hid (fun i (hi : i < l.length) => farL_ix (d := d) hi)
            obtain ⟨fa, fc, rfl, hfc1, hfc2⟩ := ownsRow_form hown
            rw [hfl] at HI ⊢
            clear hown
            generalize farL d l.length = F at *
            generalize leastF d (List.range l.length) = m at *
            go_wp2_with (go_at_call 15; refine (HS.out _ _ (O4.trans ho) (HD4.out.old ho)).mono ?_; rintro e w9 ⟨⟨y9, rfl, hy9⟩, o9⟩; obtain ⟨a9, c9, rfl, _, _⟩ := ownsRow_form hy9; rw [hsl])
            have HI9 := Lib.hid hy9.ints
            have O9 : Old W w9 := (O4.trans ho).trans o9
            rw [hsl] at HI9
            clear hy9
            have hflt : ∀ j, ((sl.take j).filter fun i => decide (m < 4) && decide (d i = m)).length ≤ l.length := fun j => by
              have h1 := List.length_filter_le (fun i => decide (m < 4) && decide (d i = m)) (sl.take j)
              have h2 : (sl.take j).length ≤ sl.length := by rw [List.length_take]; omega
              omega
            go_loopw [16, 75] (fun wv jv wx => ∃ j : Nat, j ≤ l.length ∧ jv = .int .i64 j ∧ OwnI 3 w9 wx wv (((sl.take j).filter fun i => decide (m < 4) && decide (d i = m)).map Int.ofNat) ∧ Old w9 wx) (fun _ jv _ => l.length - (intOf jv).toNat)
            case atStart => exact ⟨0, Nat.zero_le _, rfl, OwnI.nil _ _ _, Old.refl _⟩
            case round =>
              obtain ⟨j, hj, rfl, hown, ho9⟩ := hrel
              have hfj := hflt j
              by_cases hjl : j < l.length
              · have hj1 : (j : Int) < l.length := by omega
                obtain ⟨_, _, b9, off9, e9, _, _, ha9, ht9⟩ := HI9.out
                obtain ⟨rfl, hx9, rfl⟩ := Value.slice.inj e9
                obtain rfl := ha9 (by rw [hsl]; omega)
                have c9j := ht9 j (by rw [hsl]; exact hjl) _ ho9
                rw [show ix (sl.map Int.ofNat) j = (sl.getD j 0 : Nat) from by simp [ix, List.getD, show j < sl.length from by omega]] at c9j
                have hil : sl.getD j 0 < l.length := Hlt.out _ (by
                  rw [show sl.getD j 0 = sl[j]'(by omega) from by simp [List.getD, show j < sl.length from by omega]]
                  exact List.getElem_mem _)
                have Htk := Lib.hid (take_snoc (l := sl) (k := j) (by omega))
                obtain ⟨_, _, bF, offF, eF, _, _, haF, htF⟩ := HI.out
                obtain ⟨rfl, hxF, rfl⟩ := Value.slice.inj eF
                obtain rfl := haF (by omega)
                have cF := htF (sl.getD j 0) (by omega) _ (o9.trans ho9)
                rw [Hfx.out _ hil] at cF
                clear ht9 ha9 hx9 e9 htF haF hxF eF
                generalize sl.getD j 0 = i at *
                have hi1 : (i : Int) < l.length := by omega
                have hi2 : decide (l.length ≤ i) = false := by rw [decide_eq_false_iff_not]; omega
                have hi3 : decide ((i : Int) < 0) = false := by rw [decide_eq_false_iff_not]; omega
                have hwj : IntKind.i64.wrap (i : Int) = (i : Int) := IntWalk.i64_in _ (by omega)
                by_cases hm : m < 4
                · have hm1 : (m : Int) < 4 := by omega
                  by_cases hdm : d i = m
                  · have hp : (decide (m < 4) && decide (d i = m)) = true := by rw [decide_eq_true hm, decide_eq_true hdm]; rfl
                    have Hp := Lib.hid hp
                    rw [hdm] at cF
                    clear hdm hp
                    have hmid : (((sl.take j).filter fun i => decide (m < 4) && decide (d i = m)).map Int.ofNat).length ≤ l.length := by rw [List.length_map]; exact hfj
                    go_wp2_with (at_builtin; refine wpList_append_ints (w0 := w9) rfl _ _ 31 rfl 3 Tryd.underlying31 infoInt _ _ [(i : Int)] rfl (hown.alloc _) _ rfl (Ints.one _ _ (i : Int)) (by show (_ + 1) * 8 ≤ _; omega) (ho9.alloc _) ?_; intro v7 w7 hown7 ho7 hg7)
                    go_roundw
                    case rel => exact ⟨j + 1, by omega, by go_num, by rw [Htk.out, List.filter_append, filter_yes (p := fun i => decide (m < 4) && decide (d i = m)) Hp.out, List.map_append]; exact hown7, ho7⟩
                    case measure => simp [intOf]; omega
                  · have hp : ¬ (decide (m < 4) && decide (d i = m)) = true := by rw [decide_eq_false hdm, Bool.and_false]; decide
                    have Hp := Lib.hid hp
                    have hdm2 : ((d i : Int) == (m : Int)) = false := by
                      have : ¬ (d i : Int) = m := by omega
                      simpa using this
                    clear hdm hp
                    generalize hdi' : (d i : Nat) = di at hdm2 cF
                    clear hdi'
                    go_wp2_with fail
                    go_roundw
                    case rel => exact ⟨j + 1, by omega, by go_num, by rw [Htk.out, List.filter_append, filter_no (p := fun i => decide (m < 4) && decide (d i = m)) Hp.out, List.append_nil]; exact hown, ho9⟩
                    case measure => simp [intOf]; omega
                · have hp : ¬ (decide (m < 4) && decide (d i = m)) = true := by rw [decide_eq_false hm, Bool.false_and]; decide
                  have Hp := Lib.hid hp
                  have hm1 : decide ((m : Int) < 4) = false := by rw [decide_eq_false_iff_not]; omega
                  clear hm hp
                  go_wp2_with fail
                  go_roundw
                  case rel => exact ⟨j + 1, by omega, by go_num, by rw [Htk.out, List.filter_append, filter_no (p := fun i => decide (m < 4) && decide (d i = m)) Hp.out, List.append_nil]; exact hown, ho9⟩
                  case measure => simp [intOf]; omega
              · obtain rfl : j = l.length := by omega
                have hj1 : ¬ (l.length : Int) < l.length := by omega
                have ht : sl.take l.length = sl := List.take_of_length_le (by omega)
                rw [ht, ← Hnl.out] at hown
                have HIw := Lib.hid hown.ints
                clear hown ht
                go_wp2_with (first
                  | (go_at_call 13; refine (HR.out _ _ (O9.trans ho9) (HD4.out.old ((ho.trans o9).trans ho9))).mono ?_; rintro e wA ⟨⟨yA, rfl, hyA⟩, oA⟩)
                  | (go_at_call 20; refine (RInts_same _ _ _ _ hyA.ints (HIw.out.old oA)).mono ?_; rintro e wB ⟨rfl, oB⟩))
                go_ret
                exact ⟨rfl, ((O9.trans ho9).trans oA).trans oB⟩
    · have hne : ((normR s).2 != 0) = true := by simpa using hn
      clear he hN hn
      generalize normR s = qs at *
      obtain ⟨q1, q2⟩ := qs
      dsimp only at *
      go_enter Tryd.func6, Tryd.ntmps6
      go_wp2_with (first
        | (go_at_call 9; refine Ha.out.mono ?_; rintro e w1 ⟨rfl, o1⟩)
        | (at_builtin; go_loud (refine wpList_append_recs (c := txE) (w0 := w1) rfl _ _ 22 rfl 9 Tryd.underlying22 _ infoTx rfl (Nat.zero_lt_succ 0) _ [] l rfl (OwnS.nil _ _ _ _) _ rfl (Hv.out.old o1).recs (by simp; omega) (by simp; omega) (Old.refl w1) ?_); intro v2 w2 hown2 ho2 hg2; obtain ⟨a2, c2, rfl, _, _⟩ := ownsRow_form hown2)
        | (go_at_call 10; refine (HN.out _ _ (Txts.of_recs hown2.recs) (o1.trans ho2)).mono ?_; rintro e w3 ⟨⟨c, b, n, u0, u1, rfl, ht⟩, o3⟩; have O3 := (o1.trans ho2).trans o3)
        | (go_at_call 19; refine (HNs.out _ O3).mono ?_; rintro e w4 ⟨rfl, o4⟩))
      go_ret
      exact ⟨rfl, O3.trans o4⟩
  · have HN := Lib.hid (fun v2 w2 (h : Txts w2 v2 l) (o : Old W w2) => New_no l v2 w2 h (HT.out.old o) he)
    have hne : ((newR l).2 != 0) = true := by simpa using he
    clear he
    generalize newR l = q at *
    obtain ⟨q1, q2⟩ := q
    generalize normR s = qs at *
    obtain ⟨r1, r2⟩ := qs
    dsimp only at *
    go_enter Tryd.func6, Tryd.ntmps6
    go_wp2_with (first
      | (go_at_call 9; refine Ha.out.mono ?_; rintro e w1 ⟨rfl, o1⟩)
      | (at_builtin; go_loud (refine wpList_append_recs (c := txE) (w0 := w1) rfl _ _ 22 rfl 9 Tryd.underlying22 _ infoTx rfl (Nat.zero_lt_succ 0) _ [] l rfl (OwnS.nil _ _ _ _) _ rfl (Hv.out.old o1).recs (by simp; omega) (by simp; omega) (Old.refl w1) ?_); intro v2 w2 hown2 ho2 hg2; obtain ⟨a2, c2, rfl, _, _⟩ := ownsRow_form hown2)
      | (go_at_call 10; refine (HN.out _ _ (Txts.of_recs hown2.recs) (o1.trans ho2)).mono ?_; rintro e w3 ⟨rfl, o3⟩; have O3 := (o1.trans ho2).trans o3)
      | (go_at_call 19; refine (HNs.out _ O3).mono ?_; rintro e w4 ⟨rfl, o4⟩))
    go_ret
    exact ⟨rfl, O3.trans o4⟩
end Go.Proofs.YtpifkinlaicliaaDoor
