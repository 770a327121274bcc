/-
  EACH NAME IS FOUND BY ITSELF, nearest to itself, among those that begin so: plain.
-/
import Derived.Test.YtpifkinlaicliaaDoorZFoldGood
import Derived.Test.YtpifkinlaicliaaDoorZTextDigits
namespace Go.Proofs.YtpifkinlaicliaaDoor
open Go.RowKit

section
variable {l : List ByteArray}
theorem nrms_at {i : Nat} (hi : i < l.length) : (l.map nrm).getD i noS = nrm (nmAt l i) := by simp [nmAt, List.getD, hi]
theorem find_self (h : Named l) {i : Nat} (hi : i < l.length) : findR l (nmAt l i) = some i := by
  unfold findR
  rw [if_pos (h.at hi).1, ← nrms_at hi]
  exact findN_at h.nodup (by rw [List.length_map]; exact hi)
theorem find_blanks (h : Named l) {i : Nat} (hi : i < l.length) (h64 : (nmAt l i).size + 2 ≤ 64) : findR l (blanks (nmAt l i)) = some i := by
  have e := norm_blanks (h.at hi).1 h64
  have := find_self h hi
  unfold findR nrm at this ⊢
  rw [e]
  exact this
theorem nrm_fold {s : ByteArray} (h : (normR s).2 = 0) : nrm s = foldS s ∧ (plainAt s.data.toList 0).2 = true := ⟨(normR_ok h).1, (normR_ok h).2.2.2⟩
theorem nrm_inj (h : Named l) {i k : Nat} (hi : i < l.length) (hk : k < l.length) (e : nrm (nmAt l i) = nrm (nmAt l k)) : i = k := by
  rw [← nrms_at hi, ← nrms_at hk] at e
  have h1 := findN_at h.nodup (k := i) (by rw [List.length_map]; exact hi)
  rw [e, findN_at h.nodup (k := k) (by rw [List.length_map]; exact hk)] at h1
  exact (Option.some.inj h1).symm
theorem apart_zero (h : Named l) {i k : Nat} (hi : i < l.length) (hk : k < l.length) : apartS (nrm (nmAt l i)) (nrm (nmAt l k)) = 0 ↔ k = i := by
  unfold apartS
  rw [levL_zero]
  constructor
  · intro e
    obtain ⟨e1, p1⟩ := nrm_fold (h.at hi).1
    obtain ⟨e2, p2⟩ := nrm_fold (h.at hk).1
    rw [e1, e2] at e
    exact (nrm_inj h hi hk (by rw [e1, e2]; exact fold_runes p1 p2 e)).symm
  · rintro rfl; rfl
theorem filter_one {m : List Nat} (hn : m.Nodup) {i : Nat} (hi : i ∈ m) {p : Nat → Bool} (hp : ∀ k ∈ m, p k = true ↔ k = i) : m.filter p = [i] := by
  induction m with
  | nil => cases hi
  | cons x m ih =>
    rw [List.nodup_cons] at hn
    rcases List.mem_cons.1 hi with rfl | hi
    · rw [List.filter_cons_of_pos ((hp i (by simp)).2 rfl)]
      congr 1
      rw [List.filter_eq_nil_iff]
      intro k hk hpk
      have := (hp k (by simp [hk])).1 hpk
      subst this
      exact hn.1 hk
    · have hx : ¬ p x = true := fun h => by
        have := (hp x (by simp)).1 h
        subst this
        exact hn.1 hi
      rw [List.filter_cons_of_neg hx]
      exact ih hn.2 hi fun k hk => hp k (by simp [hk])
theorem near_self (h : Named l) {i : Nat} (hi : i < l.length) : nearL l (nmAt l i) = [i] := by
  have hm : i ∈ sortedL l := sortTo_mem.2 hi
  have h0 : leastF (fun k => apartS (nrm (nmAt l i)) (nrm (nmAt l k))) (sortedL l) = 0 := by
    have := (leastF_le (d := fun k => apartS (nrm (nmAt l i)) (nrm (nmAt l k))) (sortedL l)).2 i hm
    have e := (apart_zero h hi hi).2 rfl
    omega
  unfold nearL
  rw [if_pos (h.at hi).1, nearF_eq, h0]
  refine filter_one (sortTo_nodup _) hm fun k hk => ?_
  have := apart_zero h hi (sortedL_lt hk)
  simpa using this
theorem begins_self (s : ByteArray) : begins s s = true := by
  unfold begins Lib.hasPrefix
  exact List.isPrefixOf_iff_prefix.2 (List.prefix_refl _)
theorem prefix_self (h : Named l) {i : Nat} (hi : i < l.length) : i ∈ prefixL l (nmAt l i) := by
  obtain ⟨e, p⟩ := nrm_fold (h.at hi).1
  unfold prefixL
  rw [if_neg (by rw [p]; decide), List.mem_filter]
  exact ⟨sortTo_mem.2 hi, by rw [← e]; exact begins_self _⟩
end
end Go.Proofs.YtpifkinlaicliaaDoor
/-
  NamesFound: each name is found by itself, however its blanks are; it is nearest to itself, and among those that begin so: the walk.
-/


namespace Go.Proofs.YtpifkinlaicliaaDoor
open Go.RowKit
attribute [local go_sem] Old.refl Old.alloc Old.drew Old.setCell OldW.old

set_option maxRecDepth 100000 in
set_option maxHeartbeats 3200000 in
theorem namesFound_row_walk (W : World) (hT : Tabs W) (l : List ByteArray) (v : Value) (hv : Txts W v l) (hz : l.length * 16 ≤ 140737488355328) :
    Calls Tryd.prog 3 #[v] W fun e w' => e = .returned (.bool true) ∧ Old W w' := by
  have Ha := Lib.hid (awake_any W hT)
  have HT := Lib.hid hT
  have Hv := Lib.hid hv
  obtain ⟨a, cap, rfl, hc1, hc2⟩ := hv.form
  clear hT hv
  by_cases he : (newR l).2 = 0
  · have hN := named_of he
    have HN := Lib.hid (fun v2 w2 (h : Txts w2 v2 l) (o : Old W w2) => New_ok l v2 w2 h (HT.out.old o) he)
    by_cases h60 : 60 < l.length
    · have h60' : (60 : Int) < l.length := by omega
      clear he hN
      go_enter Tryd.func3, Tryd.ntmps3
      go_wp2_with (first
        | (go_at_call 9; refine Ha.out.mono ?_; rintro e w1 ⟨rfl, o1⟩)
        | (at_builtin; go_loud (refine wpList_append_recs (c := txE) (w0 := w1) rfl _ _ 22 rfl 9 Tryd.underlying22 _ infoTx rfl (Nat.zero_lt_succ 0) _ [] l rfl (OwnS.nil _ _ _ _) _ rfl (Hv.out.old o1).recs (by simp; omega) (by simp; omega) (Old.refl w1) ?_); intro v2 w2 hown2 ho2 hg2; obtain ⟨a2, c2, rfl, _, _⟩ := ownsRow_form hown2)
        | (go_at_call 10; refine (HN.out _ _ (Txts.of_recs hown2.recs) (o1.trans ho2)).mono ?_; rintro e w3 ⟨⟨c, b, n, u0, u1, rfl, ht⟩, o3⟩; have O3 := (o1.trans ho2).trans o3))
      go_ret
      exact ⟨rfl, O3⟩
    · have h60' : ¬ (60 : Int) < l.length := by omega
      have HL := Lib.hid (fun p V (h : Hdl V p l) => Len_any p l V h)
      have HF := Lib.hid (fun p s V (o : Old W V) (h : Hdl V p l) => Find_any p l s V (HT.out.old o) h)
      have HR := Lib.hid (fun p s V (o : Old W V) (h : Hdl V p l) => Near_any p l hN s V (HT.out.old o) h)
      have HP := Lib.hid (fun p s (hs : s.size ≤ 64) V (o : Old W V) (h : Hdl V p l) => Prefix_any p l hN s (by omega) V (HT.out.old o) h)
      have Hself := Lib.hid (fun i (hi : i < l.length) => find_self hN hi)
      have Hblk := Lib.hid (fun i (hi : i < l.length) => find_blanks hN hi)
      have Hnear := Lib.hid (fun i (hi : i < l.length) => near_self hN hi)
      have Hpre := Lib.hid (fun i (hi : i < l.length) => prefix_self hN hi)
      have H64 := Lib.hid (fun i (h : i < l.length) => (hN.at h).2.1)
      clear he hN
      go_enter Tryd.func3, Tryd.ntmps3
      go_wp2_with (first
        | (go_at_call 9; refine Ha.out.mono ?_; rintro e w1 ⟨rfl, o1⟩)
        | (at_builtin; go_loud (refine wpList_append_recs (c := txE) (w0 := w1) rfl _ _ 22 rfl 9 Tryd.underlying22 _ infoTx rfl (Nat.zero_lt_succ 0) _ [] l rfl (OwnS.nil _ _ _ _) _ rfl (Hv.out.old o1).recs (by simp; omega) (by simp; omega) (Old.refl w1) ?_); intro v2 w2 hown2 ho2 hg2; obtain ⟨a2, c2, rfl, _, _⟩ := ownsRow_form hown2)
        | (go_at_call 10; refine (HN.out _ _ (Txts.of_recs hown2.recs) (o1.trans ho2)).mono ?_; rintro e w3 ⟨⟨c, b, n, u0, u1, rfl, ht⟩, o3⟩; have O3 := (o1.trans ho2).trans o3; have HD := Lib.hid (show Hdl w3 (some ⟨c, 0, none⟩) l from .inr ⟨c, rfl, ht.tab⟩); clear ht)
        | (go_at_call 11; refine (HL.out _ _ HD.out).mono ?_; rintro e w4 ⟨rfl, o4⟩))
      have O4 : Old W w4 := O3.trans o4
      have HD4 := Lib.hid (HD.out.old o4)
      clear hown2 ho2 hg2 HN Ha HD HL
      go_loopw [43] (fun kv wr => ∃ k : Nat, k ≤ l.length ∧ kv = .int .i64 k ∧ Old w4 wr) (fun kv _ => l.length - (intOf kv).toNat)
      case atStart => exact ⟨0, Nat.zero_le _, rfl, Old.refl _⟩
      case round =>
        obtain ⟨k, hk, rfl, ho⟩ := hrel
        by_cases hlt : k < l.length
        · have hk1 : (k : Int) < l.length := by omega
          obtain ⟨bl, offl, capl, el, _, _, hNi⟩ := Hv.out.at' hlt
          obtain ⟨rfl, hxl, rfl⟩ := Value.slice.inj el
          clear hxl el
          have cNi := hNi wr (O4.trans ho)
          have s64 := H64.out k hlt
          have HF1 := Lib.hid (fun V (o : Old w4 V) => HF.out (some ⟨c, 0, none⟩) (nmAt l k) V (O4.trans o) (HD4.out.old o))
          have HF2 := Lib.hid (fun V (o : Old w4 V) => HF.out (some ⟨c, 0, none⟩) (blanks (nmAt l k)) V (O4.trans o) (HD4.out.old o))
          have HR1 := Lib.hid (fun V (o : Old w4 V) => HR.out (some ⟨c, 0, none⟩) (nmAt l k) V (O4.trans o) (HD4.out.old o))
          have HP1 := Lib.hid (fun V (o : Old w4 V) => HP.out (some ⟨c, 0, none⟩) (nmAt l k) s64 V (O4.trans o) (HD4.out.old o))
          have Hp1 := Lib.hid (Hpre.out k hlt)
          have Hb1 := Lib.hid (Hblk.out k hlt)
          rw [Hself.out k hlt] at HF1
          rw [Hnear.out k hlt] at HR1
          clear hNi
          unfold blanks at HF2 Hb1
          generalize nmAt l k = s at *
          generalize hpe : prefixL l s = pl at *
          have Hpe := Lib.hid hpe
          clear hpe
          go_wp2_with (first
            | (go_at_call 12; refine (HF1.out _ ho).mono ?_; rintro e w5 ⟨rfl, o5⟩; have O5 := ho.trans o5)
            | (go_at_call 13; refine (HR1.out _ O5).mono ?_; rintro e w6 ⟨⟨y6, rfl, hy6⟩, o6⟩; have O6 := O5.trans o6; obtain ⟨a6, c6, rfl, _, _⟩ := ownsRow_form hy6)
            | (go_at_call 14; refine (HP1.out _ O6).mono ?_; rintro e w7 ⟨⟨y7, rfl, hy7⟩, o7⟩; have O7 := O6.trans o7; obtain ⟨a7, c7, rfl, _, _⟩ := ownsRow_form hy7))
          obtain ⟨_, _, b6, off6, e6, _, hc6, ha6, ht6⟩ := hy6.ints
          obtain ⟨rfl, _, rfl⟩ := Value.slice.inj e6
          obtain rfl := ha6 (by simp)
          have c60 := ht6 0 (by simp)
          rw [show ix ([k].map Int.ofNat) 0 = (k : Int) from rfl, Nat.add_zero] at c60
          have C60 := Lib.hid c60
          have hln6 : ([k].map Int.ofNat).length = 1 := rfl
          have hln7 : (pl.map Int.ofNat).length = pl.length := List.length_map ..
          have HI7 := Lib.hid hy7.ints
          have hpl1 : pl.length ≤ l.length := by rw [← Hpe.out]; exact prefixL_length l s
          clear hy6 hy7 ht6 ha6 e6 c60
          go_loopw [11, 61] (fun av jv wq => ∃ j : Nat, j ≤ pl.length ∧ jv = .int .i64 j ∧ av = .bool (decide (k ∈ pl.take j)) ∧ Old w7 wq) (fun _ jv _ => pl.length - (intOf jv).toNat)
          case atStart => exact ⟨0, Nat.zero_le _, rfl, by simp, Old.refl _⟩
          case round =>
            obtain ⟨j, hj, rfl, rfl, hoq⟩ := hrel
            by_cases hjl : j < pl.length
            · have hj1 : (j : Int) < pl.length := by omega
              obtain ⟨_, _, b7, off7, e7, _, _, ha7, ht7⟩ := HI7.out
              obtain ⟨rfl, hx7, rfl⟩ := Value.slice.inj e7
              obtain rfl := ha7 (by rw [hln7]; omega)
              have c7 := ht7 j (by rw [hln7]; exact hjl) _ hoq
              rw [show ix (pl.map Int.ofNat) j = (pl.getD j 0 : Nat) from by simp [ix, List.getD, hjl]] at c7
              have Htk := Lib.hid (take_snoc (l := pl) (k := j) hjl)
              clear ht7 ha7 hx7 e7
              generalize pl.getD j 0 = x at *
              cases hin : decide (k ∈ pl.take j) with
              | true =>
                have hnx : decide (k ∈ pl.take (j + 1)) = true := by
                  rw [decide_eq_true_iff] at hin ⊢
                  rw [Htk.out, List.mem_append]; exact .inl hin
                have Hnx := Lib.hid hnx
                clear hin hnx
                go_wp2_with fail
                go_roundw
                case rel => exact ⟨j + 1, by omega, by go_num, by rw [Hnx.out], hoq⟩
                case measure => simp [intOf]; omega
              | false =>
                rw [decide_eq_false_iff_not] at hin
                by_cases hx : x = k
                · subst hx
                  have hnx : decide (x ∈ pl.take (j + 1)) = true := by
                    rw [decide_eq_true_iff, Htk.out, List.mem_append]; exact .inr (by simp)
                  have Hnx := Lib.hid hnx
                  clear hin hnx
                  go_wp2_with fail
                  go_roundw
                  case rel => exact ⟨j + 1, by omega, by go_num, by rw [Hnx.out], hoq⟩
                  case measure => simp [intOf]; omega
                · have hnx : decide (k ∈ pl.take (j + 1)) = false := by
                    rw [decide_eq_false_iff_not, Htk.out, List.mem_append, List.mem_singleton]
                    exact fun h => h.elim hin (fun e => hx e.symm)
                  have Hnx := Lib.hid hnx
                  have hxk : ((x : Int) == (k : Int)) = false := by
                    have : ¬ (x : Int) = k := by omega
                    simpa using this
                  clear hin hnx
                  go_wp2_with fail
                  go_roundw
                  case rel => exact ⟨j + 1, by omega, by go_num, by rw [Hnx.out], hoq⟩
                  case measure => simp [intOf]; omega
            · obtain rfl : j = pl.length := by omega
              have hj1 : ¬ (pl.length : Int) < pl.length := by omega
              have hin : decide (k ∈ pl) = true := by rw [decide_eq_true_iff]; exact Hp1.out
              have hopt : optN (some k) = (k : Int) := rfl
              have c60 := later (C60.out _ (o7.trans hoq))
              by_cases h62 : s.size + 2 ≤ 64
              · have h62' : (s.size : Int) + 2 ≤ 64 := by omega
                have HB := Lib.hid (HF2.out _ (O7.trans hoq))
                rw [Hb1.out h62] at HB
                go_wp2_with (go_at_call 12; refine HB.out.mono ?_; rintro e w8 ⟨rfl, o8⟩)
                go_roundw
                case rel => exact ⟨k + 1, by omega, by go_num, (O7.trans hoq).trans o8⟩
                case measure => simp [intOf]; omega
              · have h62' : ¬ (s.size : Int) + 2 ≤ 64 := by omega
                go_wp2_with fail
                go_roundw
                case rel => exact ⟨k + 1, by omega, by go_num, O7.trans hoq⟩
                case measure => simp [intOf]; omega
        · obtain rfl : k = l.length := by omega
          have hk1 : ¬ (l.length : Int) < l.length := by omega
          go_wp2_with fail
          go_ret
          exact ⟨rfl, O4.trans ho⟩
  · have HN := Lib.hid (fun v2 w2 (h : Txts w2 v2 l) (o : Old W w2) => New_no l v2 w2 h (HT.out.old o) he)
    have hne : ((newR l).2 != 0) = true := by simpa using he
    clear he
    generalize newR l = q at *
    obtain ⟨q1, q2⟩ := q
    dsimp only at *
    go_enter Tryd.func3, Tryd.ntmps3
    go_wp2_with (first
      | (go_at_call 9; refine Ha.out.mono ?_; rintro e w1 ⟨rfl, o1⟩)
      | (at_builtin; go_loud (refine wpList_append_recs (c := txE) (w0 := w1) rfl _ _ 22 rfl 9 Tryd.underlying22 _ infoTx rfl (Nat.zero_lt_succ 0) _ [] l rfl (OwnS.nil _ _ _ _) _ rfl (Hv.out.old o1).recs (by simp; omega) (by simp; omega) (Old.refl w1) ?_); intro v2 w2 hown2 ho2 hg2; obtain ⟨a2, c2, rfl, _, _⟩ := ownsRow_form hown2)
      | (go_at_call 10; refine (HN.out _ _ (Txts.of_recs hown2.recs) (o1.trans ho2)).mono ?_; rintro e w3 ⟨rfl, o3⟩))
    go_ret
    exact ⟨rfl, (o1.trans ho2).trans o3⟩
end Go.Proofs.YtpifkinlaicliaaDoor
