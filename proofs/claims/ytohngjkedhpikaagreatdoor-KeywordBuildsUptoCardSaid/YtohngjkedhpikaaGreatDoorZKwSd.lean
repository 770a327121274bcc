/-
  KEYWORD, RV: the document's builder: every mention of the sources.
-/
import Derived.Test.YtohngjkedhpikaaGreatDoorZKwRu
import Derived.Test.YtohngjkedhpikaaGreatDoorZKwOa
import Derived.Test.YtohngjkedhpikaaGreatDoorZKwRt
import Derived.Test.YtohngjkedhpikaaGreatDoorZKwRr
import Derived.Test.YtohngjkedhpikaaGreatDoorZKwS
import Derived.Test.YtohngjkedhpikaaGreatDoorZKwRy
import Derived.Test.YtohngjkedhpikaaGreatDoorZTocFault
import Derived.BigQuiet
import Derived.Test.YtohngjkedhpikaaGreatDoorZKwRz
namespace Go.Proofs.YtohngjkedhpikaaGreatDoor
open Go.RowKit Go.Maps
attribute [local go_sem] Old.refl Old.alloc Old.drew Old.setCell OldW.old

def RetAll (w w' : World) (M : List Mn) (e : Ending) : Prop := ∃ (lv : Value) (t : List Er) (own : Nat → Option Int), e = .returned lv ∧ BR w w' lv t (rawOf M) own
theorem AllI.ret {w wx : World} {bb tb : Nat} {M : List Mn} {own : Nat → Option Int} (h : AllI w wx bb tb M own) : ∃ (lv : Value) (t : List Er), (∀ V, Old wx V → V.cell? ⟨bb, 0, none⟩ = some lv) ∧ BR w wx lv t (rawOf M) own := by
  obtain ⟨k, lv, t, hk, hb⟩ := h.bd
  exact ⟨lv, t, later (cells_at (i := 0) hb.box rfl), hb.br⟩
set_option maxRecDepth 100000 in
set_option maxHeartbeats 6400000 in
theorem all_any (v : Value) (S : List (List Tk)) (w : World) (hv : Srk w v S) (hM : (mns S S.length).length ≤ 1000) (hz : ∀ m ∈ mns S S.length, MnZ m) (hS : totK S S.length ≤ 1000000) :
    Calls Tryz.prog 76 #[v] w fun e w' => RetAll w w' (mns S S.length) e ∧ Old w w' := by
  obtain ⟨sa, scap, rfl, hsc1, hsc2⟩ := Seqs.form hv
  have Hroom := Lib.hid (fun (a b : Nat) (T : List Tk) (t : Tk) (h1 : S[a]? = some T) (h2 : T[b]? = some t) => mns_room h1 h2)
  have Hmem := Lib.hid (fun (a b : Nat) (T : List Tk) (t : Tk) (h1 : S[a]? = some T) (h2 : T[b]? = some t) (m : Mn) (hm : m ∈ mnT ((totK S a + b : Nat) : Int) a t) => mem_mns.2 ⟨a, b, T, t, (List.getElem?_eq_some_iff.1 h1).1, h1, h2, hm⟩)
  have Hz := Lib.hid hz
  have Htot := Lib.hid (fun (a : Nat) (T : List Tk) (h : S[a]? = some T) => show totK S a + T.length ≤ 1000000 from by
    rw [← totK_succ h]
    exact Nat.le_trans (totK_mono S (List.getElem?_eq_some_iff.1 h).1) hS)
  obtain ⟨bs, os, has, hats⟩ := Srk.open hv
  have Has := Lib.hid has
  have Hats := Lib.hid hats
  have hmm := @run_makeMap Tryz.prog
  have hA0 := AllI.made w
  clear hv has hats hz hS
  go_enter Tryz.func76, Tryz.ntmps76
  go_upto_region 2 with fail
  have HA0 := Lib.hid hA0
  generalize (w.alloc (.map #[] 0)).alloc (.cells #[.slice none 0 0, .map (some w.heap.size)] 162 (0, 0)) = w0 at *
  generalize w.heap.size = tb at *
  generalize hbb : tb + 1 = bb at *
  clear hA0 hmm hbb
  go_wp2_with fail
  go_loopw [4, 18] (fun n j wx => ∃ (i : Nat) (own : Nat → Option Int), j = .int .i64 i ∧ n = .int .i64 ((totK S i : Nat) : Int) ∧ i ≤ S.length ∧ AllI w wx bb tb (mns S i) own) (fun _ j _ => S.length - (intOf j).toNat)
  case atStart => exact ⟨0, _, rfl, rfl, Nat.zero_le _, HA0.out⟩
  case round =>
    clear HA0
    obtain ⟨i, own, rfl, rfl, hi, hA⟩ := hrel
    have HA := Lib.hid hA
    clear hA
    by_cases hlt : i < S.length
    · have hi1 : (i : Int) < S.length := by omega
      obtain ⟨T, hTi⟩ : ∃ T, S[i]? = some T := ⟨_, List.getElem?_eq_getElem hlt⟩
      obtain ⟨a0, n0, c0', ax, cx, hcs, hTs, k1, k2⟩ := Hats.out i T hTi
      obtain rfl := Has.out (by omega)
      have c0 : ∀ V, Old wr V → V.cell? ⟨bs, os + i * 2, none⟩ = some (.slice a0 n0 c0') := fun V o => (hcs V (HA.out.old.trans o)).1
      have c1 : ∀ V, Old wr V → V.cell? ⟨bs, os + i * 2 + 1, none⟩ = some (.slice ax T.length cx) := fun V o => (hcs V (HA.out.old.trans o)).2
      obtain ⟨bt, ot, hat, hatt⟩ := Trs.open hTs
      have HTi := Lib.hid hTi
      have Hat := Lib.hid hat
      have Hatt := Lib.hid hatt
      have Hsuc : Hid (mns S (i + 1) = mns S i ++ mnsT (totK S i) i T T.length) := Lib.hid (mns_succ hTi)
      have Htsuc : Hid (totK S (i + 1) = totK S i + T.length) := Lib.hid (totK_succ hTi)
      have htot := Htot.out i T hTi
      clear hcs hTs hat hatt hTi
      go_upto_region 6 with fail
      have d1 := later (show (wr.alloc (.cells #[.slice a0 n0 c0', .slice ax T.length cx] 33)).cell? ⟨wr.heap.size, 1, none⟩ = some (.slice ax T.length cx) by simp [go_sem])
      have HA1 := Lib.hid (HA.out.after ((Old.refl wr).alloc (.cells #[.slice a0 n0 c0', .slice ax T.length cx] 33)))
      generalize wr.alloc (.cells #[.slice a0 n0 c0', .slice ax T.length cx] 33) = w1 at *
      generalize wr.heap.size = g1 at *
      clear c0 c1 HA
      go_wp2_with fail
      go_loopw [4, 25] (fun n j wx => ∃ (q nq : Nat) (own : Nat → Option Int), j = .int .i64 q ∧ n = .int .i64 (nq : Int) ∧ nq = totK S i + q ∧ q ≤ T.length ∧ AllI w wx bb tb (mns S i ++ mnsT (totK S i) i T q) own) (fun _ j _ => T.length - (intOf j).toNat)
      case atStart => exact ⟨0, _, own, rfl, rfl, rfl, Nat.zero_le _, by rw [mnsT, List.append_nil]; exact HA1.out⟩
      case round =>
        clear d1 HA1 own
        obtain ⟨q, nq, own, rfl, rfl, hnq, hq, hA⟩ := hrel
        have Hnq := Lib.hid hnq
        have hnb : nq ≤ 1000000 := by omega
        clear hnq
        have HA := Lib.hid hA
        clear hA
        by_cases hlt2 : q < T.length
        · have hq1 : (q : Int) < T.length := by omega
          obtain ⟨t, ht⟩ : ∃ t, T[q]? = some t := ⟨_, List.getElem?_eq_getElem hlt2⟩
          obtain ⟨kd, nm, ti, lv, a4, c4', a5, c5', a6, n6, c6', ln, hcs, hK4, hK5⟩ := Hatt.out q t ht
          obtain rfl := Hat.out (by omega)
          have o0 := Lib.hid HA.out.old
          have g0 : ∀ V, Old wr V → V.cell? ⟨bt, ot + q * 8, none⟩ = some (.int .i64 kd) := fun V o => (hcs V (o0.out.trans o)).1
          have g1' : ∀ V, Old wr V → V.cell? ⟨bt, ot + q * 8 + 1, none⟩ = some (.string nm) := fun V o => (hcs V (o0.out.trans o)).2.1
          have g2 : ∀ V, Old wr V → V.cell? ⟨bt, ot + q * 8 + 2, none⟩ = some (.string ti) := fun V o => (hcs V (o0.out.trans o)).2.2.1
          have g3 : ∀ V, Old wr V → V.cell? ⟨bt, ot + q * 8 + 3, none⟩ = some (.int .i64 lv) := fun V o => (hcs V (o0.out.trans o)).2.2.2.1
          have g4 : ∀ V, Old wr V → V.cell? ⟨bt, ot + q * 8 + 4, none⟩ = some (.slice a4 t.keys.length c4') := fun V o => (hcs V (o0.out.trans o)).2.2.2.2.1
          have g5 : ∀ V, Old wr V → V.cell? ⟨bt, ot + q * 8 + 5, none⟩ = some (.slice a5 t.sees.length c5') := fun V o => (hcs V (o0.out.trans o)).2.2.2.2.2.1
          have g6 : ∀ V, Old wr V → V.cell? ⟨bt, ot + q * 8 + 6, none⟩ = some (.slice a6 n6 c6') := fun V o => (hcs V (o0.out.trans o)).2.2.2.2.2.2.1
          have g7 : ∀ V, Old wr V → V.cell? ⟨bt, ot + q * 8 + 7, none⟩ = some (.int .i64 ln) := fun V o => (hcs V (o0.out.trans o)).2.2.2.2.2.2.2
          obtain ⟨b4, o4, ha4, h4⟩ := Kqs.open hK4
          obtain ⟨b5, o5, ha5, h5⟩ := Sqs'.open hK5
          have Ha4 := Lib.hid ha4
          have H4 := Lib.hid h4
          have Ha5 := Lib.hid ha5
          have H5 := Lib.hid h5
          have hroom := Hroom.out i q T t HTi.out ht
          have HTs : Hid (mns S i ++ mnsT (totK S i) i T (q + 1) = (mns S i ++ mnsT (totK S i) i T q) ++ mnT (nq : Int) i t) := Lib.hid (by rw [Hnq.out, mnsT_succ ht, List.append_assoc])
          have HMt := Lib.hid (fun (m : Mn) (hm : m ∈ mnT (nq : Int) i t) => Hz.out m (Hmem.out i q T t HTi.out ht m (by rw [← Hnq.out]; exact hm)))
          clear hcs hK4 hK5 ha4 h4 ha5 h5 ht
          go_upto_region 9 with fail
          have C4 := show (wr.alloc (.cells #[.int .i64 kd, .string nm, .string ti, .int .i64 lv, .slice a4 t.keys.length c4', .slice a5 t.sees.length c5', .slice a6 n6 c6', .int .i64 ln] 38)).cell? ⟨wr.heap.size, 4, none⟩ = some (.slice a4 t.keys.length c4') by simp [go_sem]
          have C5 := show (wr.alloc (.cells #[.int .i64 kd, .string nm, .string ti, .int .i64 lv, .slice a4 t.keys.length c4', .slice a5 t.sees.length c5', .slice a6 n6 c6', .int .i64 ln] 38)).cell? ⟨wr.heap.size, 5, none⟩ = some (.slice a5 t.sees.length c5') by simp [go_sem]
          have HAA := Lib.hid (HA.out.trim.after ((Old.refl wr).alloc (.cells #[.int .i64 kd, .string nm, .string ti, .int .i64 lv, .slice a4 t.keys.length c4', .slice a5 t.sees.length c5', .slice a6 n6 c6', .int .i64 ln] 38)))
          have hg8 := HA.out.apart (Nat.le_refl _)
          generalize wr.alloc (.cells #[.int .i64 kd, .string nm, .string ti, .int .i64 lv, .slice a4 t.keys.length c4', .slice a5 t.sees.length c5', .slice a6 n6 c6', .int .i64 ln] 38) = wA at *
          generalize trimO wr.heap.size own = ownA at *
          generalize wr.heap.size = g8 at *
          have K5 := Lib.hid (show ∀ own' V, Fr ownA own' bb tb wA V → V.cell? ⟨g8, 5, none⟩ = some (.slice a5 t.sees.length c5') from fun _ _ hf => hf.cell C5 hg8)
          clear g0 g1' g2 g3 g4 g5 g6 g7 HA o0 C5 hg8
          generalize hP : mns S i ++ mnsT (totK S i) i T q = P at *
          clear hP
          go_wp2_with fail
          clear C4
          go_loopw [32] (fun j wx => ∃ (r : Nat) (own : Nat → Option Int), j = .int .i64 r ∧ r ≤ t.keys.length ∧ AllI w wx bb tb (P ++ (t.keys.take r).map (mnK (nq : Int) i)) own ∧ Fr ownA own bb tb wA wx) (fun j _ => t.keys.length - (intOf j).toNat)
          case atStart => exact ⟨0, ownA, rfl, Nat.zero_le _, by rw [List.take_zero, List.map_nil, List.append_nil]; exact HAA.out, Fr.of_old (Old.refl _)⟩
          case round =>
            clear HAA own
            obtain ⟨r, own, rfl, hr, hA, hk⟩ := hrel
            have HA := Lib.hid hA
            have HK := Lib.hid hk
            clear hA hk
            by_cases hlt3 : r < t.keys.length
            · have hr1 : (r : Int) < t.keys.length := by omega
              obtain ⟨x, hx⟩ : ∃ x, t.keys[r]? = some x := ⟨_, List.getElem?_eq_getElem hlt3⟩
              obtain rfl := Ha4.out (by omega)
              have Ho := Lib.hid HA.out.old
              have e0 : ∀ V, Old wr V → V.cell? ⟨b4, o4 + r * 3, none⟩ = some (.string x.term) := fun V o => (H4.out r x hx V (Ho.out.trans o)).1
              have e1 : ∀ V, Old wr V → V.cell? ⟨b4, o4 + r * 3 + 1, none⟩ = some (.string x.sub) := fun V o => (H4.out r x hx V (Ho.out.trans o)).2.1
              have e2 : ∀ V, Old wr V → V.cell? ⟨b4, o4 + r * 3 + 2, none⟩ = some (.int .i64 x.line) := fun V o => (H4.out r x hx V (Ho.out.trans o)).2.2
              have hmem := Lib.hid (HMt.out (mnK (nq : Int) i x) (by rw [mnT, List.mem_append, List.mem_map]; exact .inl ⟨x, List.mem_of_getElem? hx, rfl⟩))
              have Hnext : Hid (P ++ (t.keys.take (r + 1)).map (mnK (nq : Int) i) = (P ++ (t.keys.take r).map (mnK (nq : Int) i)) ++ [mnK (nq : Int) i x]) := Lib.hid (by
                rw [List.take_add_one, hx, List.map_append, ← List.append_assoc]; rfl)
              have hlen : Hid ((P ++ (t.keys.take r).map (mnK (nq : Int) i)).length < 1000) := Lib.hid (by
                rw [List.length_append, List.length_map, List.length_take]; omega)
              clear hx
              generalize hM1 : P ++ (t.keys.take r).map (mnK (nq : Int) i) = M1 at *
              clear hM1
              go_upto_region 12 with fail
              have HAB := Lib.hid (HA.out.after ((Old.refl wr).alloc (.cells #[.string x.term, .string x.sub, .int .i64 x.line] 40)))
              have HKB := Lib.hid (HK.out.trans (Fr.of_old ((Old.refl wr).alloc (.cells #[.string x.term, .string x.sub, .int .i64 x.line] 40))))
              have p0 := later (show (wr.alloc (.cells #[.string x.term, .string x.sub, .int .i64 x.line] 40)).cell? ⟨wr.heap.size, 0, none⟩ = some (.string x.term) by simp [go_sem])
              have p1 := later (show (wr.alloc (.cells #[.string x.term, .string x.sub, .int .i64 x.line] 40)).cell? ⟨wr.heap.size, 1, none⟩ = some (.string x.sub) by simp [go_sem])
              generalize wr.alloc (.cells #[.string x.term, .string x.sub, .int .i64 x.line] 40) = wB at *
              generalize wr.heap.size = gr at *
              clear e0 e1 e2 HA HK Ho
              have HC := Lib.hid (show Calls Tryz.prog 112 #[.pointer (some ⟨bb, 0, none⟩), .string x.term, .string x.sub] wB fun e w' => ∃ (i' : Nat) (own' : Nat → Option Int), e = .returned (.int .i64 i') ∧ EntI w w' bb tb M1 (mnK (nq : Int) i x) i' own' ∧ Fr own own' bb tb wB w' from HAB.out.entry hmem.out hlen.out)
              go_wp2_with (first
                | (go_at_call 112; (with_reducible refine HC.out.mono ?_); rintro z w5 ⟨i5, own5, rfl, hE5, hF5⟩; have HE5 := Lib.hid hE5; have HF5 := Lib.hid hF5; clear hE5 hF5; have HC5 := Lib.hid (show Calls Tryz.prog 111 #[.pointer (some ⟨bb, 0, none⟩), .int .i64 i5, .int .i64 (nq : Int)] w5 (fun e w' => e = .returned (.tuple #[]) ∧ ∃ own'', AllI w w' bb tb (M1 ++ [mnK (nq : Int) i x]) own'' ∧ Fr own5 own'' bb tb w5 w') from HE5.out.topic (show ¬ (0 : Int) = 1 by decide)))
                | (go_at_call 111; (with_reducible refine HC5.out.mono ?_); rintro z w6 ⟨rfl, own6, hA6, hF6⟩; have HA6 := Lib.hid hA6; have HF6 := Lib.hid hF6; clear hA6 hF6))
              go_roundw
              case rel => exact ⟨r + 1, own6, by go_num, by omega, by rw [Hnext.out]; exact HA6.out, HKB.out.trans (HF5.out.trans HF6.out)⟩
              case measure => simp [intOf]; omega
            · obtain rfl : r = t.keys.length := by omega
              have hr1 : ¬ (t.keys.length : Int) < t.keys.length := by omega
              rw [List.take_length] at HA
              have k5 := K5.out _ _ HK.out
              have HA1 := HA
              clear HK HA hr
              go_upto_region 15 with fail
              clear k5
              go_loopw [49] (fun j wx => ∃ (r : Nat) (own : Nat → Option Int), j = .int .i64 r ∧ r ≤ t.sees.length ∧ AllI w wx bb tb (P ++ t.keys.map (mnK (nq : Int) i) ++ (t.sees.take r).map (mnS (nq : Int) i)) own) (fun j _ => t.sees.length - (intOf j).toNat)
              case atStart => exact ⟨0, own, rfl, Nat.zero_le _, by rw [List.take_zero, List.map_nil, List.append_nil]; exact HA1.out⟩
              case round =>
                clear HA1 own
                obtain ⟨r, own, rfl, hr, hA⟩ := hrel
                have HA := Lib.hid hA
                clear hA
                by_cases hlt3 : r < t.sees.length
                · have hr1 : (r : Int) < t.sees.length := by omega
                  obtain ⟨x, hx⟩ : ∃ x, t.sees[r]? = some x := ⟨_, List.getElem?_eq_getElem hlt3⟩
                  obtain rfl := Ha5.out (by omega)
                  have Ho := Lib.hid HA.out.old
                  have e0 : ∀ V, Old wr V → V.cell? ⟨b5, o5 + r * 3, none⟩ = some (.string x.frm) := fun V o => (H5.out r x hx V (Ho.out.trans o)).1
                  have e1 : ∀ V, Old wr V → V.cell? ⟨b5, o5 + r * 3 + 1, none⟩ = some (.string x.aim) := fun V o => (H5.out r x hx V (Ho.out.trans o)).2.1
                  have e2 : ∀ V, Old wr V → V.cell? ⟨b5, o5 + r * 3 + 2, none⟩ = some (.int .i64 x.line) := fun V o => (H5.out r x hx V (Ho.out.trans o)).2.2
                  have hmem := Lib.hid (HMt.out (mnS (nq : Int) i x) (by rw [mnT, List.mem_append, List.mem_map, List.mem_map]; exact .inr ⟨x, List.mem_of_getElem? hx, rfl⟩))
                  have Hnext : Hid (P ++ t.keys.map (mnK (nq : Int) i) ++ (t.sees.take (r + 1)).map (mnS (nq : Int) i) = (P ++ t.keys.map (mnK (nq : Int) i) ++ (t.sees.take r).map (mnS (nq : Int) i)) ++ [mnS (nq : Int) i x]) := Lib.hid (by
                    rw [List.take_add_one, hx, List.map_append, ← List.append_assoc]; rfl)
                  have hlen : Hid ((P ++ t.keys.map (mnK (nq : Int) i) ++ (t.sees.take r).map (mnS (nq : Int) i)).length < 1000) := Lib.hid (by
                    rw [List.length_append, List.length_append, List.length_map, List.length_map, List.length_take]; omega)
                  clear hx
                  generalize hM1 : P ++ t.keys.map (mnK (nq : Int) i) ++ (t.sees.take r).map (mnS (nq : Int) i) = M1 at *
                  clear hM1
                  go_upto_region 17 with fail
                  have HAB := Lib.hid (HA.out.trim.after ((Old.refl wr).alloc (.cells #[.string x.frm, .string x.aim, .int .i64 x.line] 78)))
                  have p0 := later (show (wr.alloc (.cells #[.string x.frm, .string x.aim, .int .i64 x.line] 78)).cell? ⟨wr.heap.size, 0, none⟩ = some (.string x.frm) by simp [go_sem])
                  have q1 := show (wr.alloc (.cells #[.string x.frm, .string x.aim, .int .i64 x.line] 78)).cell? ⟨wr.heap.size, 1, none⟩ = some (.string x.aim) by simp [go_sem]
                  have p1 := later q1
                  have hgr := HA.out.apart (Nat.le_refl _)
                  generalize wr.alloc (.cells #[.string x.frm, .string x.aim, .int .i64 x.line] 78) = wB at *
                  generalize trimO wr.heap.size own = ownB at *
                  generalize wr.heap.size = gr at *
                  clear e0 e1 e2 HA Ho
                  have HCd := Lib.hid (fun V (o : Old wB V) => show Calls Tryz.prog 112 #[.pointer (some ⟨bb, 0, none⟩), .string x.frm, .string ⟨#[]⟩] V fun e w' => ∃ (i' : Nat) (own' : Nat → Option Int), e = .returned (.int .i64 i') ∧ EntI w w' bb tb M1 (mnS (nq : Int) i x) i' own' ∧ Fr ownB own' bb tb V w' from (HAB.out.after o).entry hmem.out hlen.out)
                  have Q1 := Lib.hid (fun V (o : Old wB V) W own' (hf : Fr ownB own' bb tb V W) => hf.cell (p1 V o) hgr)
                  clear q1
                  clear hgr
                  go_region_with (first
                    | (go_at_call 112; (with_reducible refine (HCd.out _ (Old.refl wB).drew).mono ?_); rintro z w5 ⟨i5, own5, rfl, hE5, hF5⟩; have HE5 := Lib.hid hE5; have p5 := later (Q1.out _ (Old.refl wB).drew _ _ hF5); clear hE5 hF5; have HC5 := Lib.hid (fun V (o : Old w5 V) => show Calls Tryz.prog 113 #[.pointer (some ⟨bb, 0, none⟩), .int .i64 i5, .string x.aim] V (fun e w' => e = .returned (.tuple #[]) ∧ ∃ own'', AllI w w' bb tb (M1 ++ [mnS (nq : Int) i x]) own'' ∧ Fr own5 own'' bb tb V w') from (HE5.out.after o).see (m := mnS (nq : Int) i x) rfl))
                    | (go_at_call 113; (with_reducible refine (HC5.out _ (Old.refl _)).mono ?_); rintro z w6 ⟨rfl, own6, hA6, hF6⟩; have HA6 := Lib.hid hA6; clear hA6 hF6))
                  all_goals
                    go_wp2_with fail
                    go_roundw
                    case rel => exact ⟨r + 1, own6, by go_num, by omega, by rw [Hnext.out]; exact HA6.out⟩
                    case measure => simp [intOf]; omega
                · obtain rfl : r = t.sees.length := by omega
                  have hr1 : ¬ (t.sees.length : Int) < t.sees.length := by omega
                  rw [List.take_length] at HA
                  go_wp2_with fail
                  go_roundw
                  case rel => exact ⟨q + 1, nq + 1, own, by go_num, by go_num, by have := Hnq.out; omega, by omega, by rw [HTs.out, mnT, ← List.append_assoc]; exact HA.out⟩
                  case measure => simp [intOf]; omega
        · obtain rfl : q = T.length := by omega
          have hq1 : ¬ (T.length : Int) < T.length := by omega
          go_wp2_with fail
          go_roundw
          case rel => exact ⟨i + 1, own, by go_num, by rw [Htsuc.out, Hnq.out], by omega, by rw [Hsuc.out]; exact HA.out⟩
          case measure => simp [intOf]; omega
    · obtain rfl : i = S.length := by omega
      have hi1 : ¬ (S.length : Int) < S.length := by omega
      obtain ⟨lv, t, hc, hb⟩ := HA.out.ret
      have HB := Lib.hid hb
      clear hb
      go_wp2_with fail
      go_ret
      exact ⟨⟨_, t, own, rfl, HB.out⟩, HA.out.old⟩
end Go.Proofs.YtohngjkedhpikaaGreatDoor
/-
  KEYWORD, RX: the document's entries in order.
-/
namespace Go.Proofs.YtohngjkedhpikaaGreatDoor
open Go.RowKit Go.Maps
attribute [local go_sem] Old.refl Old.alloc Old.drew Old.setCell OldW.old

def cmpR (x y : Er) : Int := cmpP (foldS x.term, foldS x.sub) (foldS y.term, foldS y.sub)
section
variable {w0 w : World} {g n cap : Nat} {t : List Er}
theorem er_put (h : OwnS erE 45 w0 w (.slice (some ⟨g, 0, none⟩) n cap) t) {i : Nat} {x : Er} (hx : t[i]? = some x) (y : Er) :
    OwnS erE 45 w0 ((((w.setCell ⟨g, i * 4, none⟩ (.string y.term)).setCell ⟨g, i * 4 + 1, none⟩ (.string y.sub)).setCell ⟨g, i * 4 + 2, none⟩ y.s2.v).setCell ⟨g, i * 4 + 3, none⟩ y.s3.v) (.slice (some ⟨g, 0, none⟩) n cap) (t.set i y) := by
  have hi := (List.getElem?_eq_some_iff.1 hx).1
  have a1 := h.stored (j := 0) hx (by decide) (x' := ⟨y.term, x.sub, x.s2, x.s3⟩) (u := .string y.term) rfl
  have a2 := a1.stored (i := i) (j := 1) (x := ⟨y.term, x.sub, x.s2, x.s3⟩) (by rw [List.getElem?_set_self hi]) (by decide) (x' := ⟨y.term, y.sub, x.s2, x.s3⟩) (u := .string y.sub) rfl
  rw [List.set_set] at a2
  have a3 := a2.stored (i := i) (j := 2) (x := ⟨y.term, y.sub, x.s2, x.s3⟩) (by rw [List.getElem?_set_self hi]) (by decide) (x' := ⟨y.term, y.sub, y.s2, x.s3⟩) (u := y.s2.v) rfl
  rw [List.set_set] at a3
  have a4 := a3.stored (i := i) (j := 3) (x := ⟨y.term, y.sub, y.s2, x.s3⟩) (by rw [List.getElem?_set_self hi]) (by decide) (x' := y) (u := y.s3.v) rfl
  rw [List.set_set] at a4
  exact a4
theorem er_cells (h : OwnS erE 45 w0 w (.slice (some ⟨g, 0, none⟩) n cap) t) {i : Nat} {x : Er} (hx : t[i]? = some x) :
    (∀ V, Old w V → V.cell? ⟨g, i * 4, none⟩ = some (.string x.term)) ∧ (∀ V, Old w V → V.cell? ⟨g, i * 4 + 1, none⟩ = some (.string x.sub)) ∧ (∀ V, Old w V → V.cell? ⟨g, i * 4 + 2, none⟩ = some x.s2.v) ∧ ∀ V, Old w V → V.cell? ⟨g, i * 4 + 3, none⟩ = some x.s3.v :=
  ⟨later (h.cell (j := 0) hx rfl), later (h.cell (j := 1) hx rfl), later (h.cell (j := 2) hx rfl), later (h.cell (j := 3) hx rfl)⟩
end
set_option maxRecDepth 100000 in
set_option maxHeartbeats 6400000 in
theorem Sort_any (lv : Value) (t : List Er) (w0 w : World) (h : OwnS erE 45 w0 w lv t) (hl : t.length ≤ 1000000)
    (hsz : ∀ x ∈ t, x.term.size ≤ 4194304 ∧ x.sub.size ≤ 4194304 ∧ (foldS x.term).size ≤ 4194304 ∧ (foldS x.sub).size ≤ 4194304) :
    Calls Tryz.prog 79 #[lv] w fun e w' => (∃ u, e = .returned u ∧ OwnS erE 45 w w' u (srt cmpR t)) ∧ Old w w' := by
  obtain ⟨a, cap, rfl, hc1, hc2⟩ := h.form
  have H := Lib.hid h
  have Hsz := Lib.hid hsz
  have Hblk : Hid (0 < t.length → ∃ g, a = some ⟨g, 0, none⟩) := Lib.hid fun hp => by
    obtain ⟨g, e, _, _⟩ := h.block hp
    exact ⟨g, e⟩
  clear h hsz
  go_enter Tryz.func79, Tryz.ntmps79
  go_wp2_with fail
  go_loopw [3, 9] (fun u j wx => ∃ i : Nat, j = .int .i64 i ∧ i ≤ t.length ∧ OwnS erE 45 w wx u (srt cmpR (t.take i)) ∧ Old w wx) (fun _ j _ => t.length - (intOf j).toNat)
  case atStart => exact ⟨0, rfl, Nat.zero_le _, OwnS.nil _ _ _ _, Old.refl _⟩
  case round =>
    obtain ⟨i, rfl, hi, hown, ho⟩ := hrel
    have HO := Lib.hid hown
    clear hown
    by_cases hlt : i < t.length
    · have hi1 : (i : Int) < t.length := by omega
      obtain ⟨x, hx⟩ : ∃ x, t[i]? = some x := ⟨_, List.getElem?_eq_getElem hlt⟩
      have hxs := Hsz.out x (List.mem_of_getElem? hx)
      obtain ⟨gt, rfl⟩ := Hblk.out (by omega)
      obtain ⟨k0, k1, k2, k3⟩ := er_cells H.out hx
      have e0 := fun V (o : Old wr V) => k0 V (ho.trans o)
      have e1 := fun V (o : Old wr V) => k1 V (ho.trans o)
      have e2 := fun V (o : Old wr V) => k2 V (ho.trans o)
      have e3 := fun V (o : Old wr V) => k3 V (ho.trans o)
      have hlen0 : (srt cmpR (t.take i)).length = i := by rw [srt_length, List.length_take]; omega
      have Hss : Hid (∀ y ∈ srt cmpR (t.take i), y.term.size ≤ 4194304 ∧ y.sub.size ≤ 4194304 ∧ (foldS y.term).size ≤ 4194304 ∧ (foldS y.sub).size ≤ 4194304) := Lib.hid fun y hy => Hsz.out y (List.mem_of_mem_take (srt_mem.1 hy))
      have Hst : Hid (srt cmpR (t.take (i + 1)) = srtStep cmpR (srt cmpR (t.take i)) x) := Lib.hid (by rw [List.take_add_one, hx, Option.toList_some, srt_snoc])
      clear hx k0 k1 k2 k3
      generalize srt cmpR (t.take i) = l0 at *
      obtain ⟨xt, xs, ⟨x2, n2, c2⟩, ⟨x3, n3, c3⟩⟩ := x
      dsimp only [Sl.v] at e0 e1 e2 e3
      have Hl0 := Lib.hid hlen0
      have hl0 : l0.length ≤ 1000000 := by omega
      clear hlen0
      obtain ⟨a3, c3', rfl, hd1, hd2⟩ := HO.out.form
      have hos := ho.size
      go_upto_region 5 with fail
      have f0 := later (show (wr.alloc (.cells #[.string xt, .string xs, .slice x2 n2 c2, .slice x3 n3 c3] 45)).cell? ⟨wr.heap.size, 0, none⟩ = some (.string xt) by simp [go_sem])
      have f1 := later (show (wr.alloc (.cells #[.string xt, .string xs, .slice x2 n2 c2, .slice x3 n3 c3] 45)).cell? ⟨wr.heap.size, 1, none⟩ = some (.string xs) by simp [go_sem])
      have f2 := later (show (wr.alloc (.cells #[.string xt, .string xs, .slice x2 n2 c2, .slice x3 n3 c3] 45)).cell? ⟨wr.heap.size, 2, none⟩ = some (.slice x2 n2 c2) by simp [go_sem])
      have f3 := later (show (wr.alloc (.cells #[.string xt, .string xs, .slice x2 n2 c2, .slice x3 n3 c3] 45)).cell? ⟨wr.heap.size, 3, none⟩ = some (.slice x3 n3 c3) by simp [go_sem])
      have HO1 := Lib.hid (HO.out.old ((Old.refl wr).alloc (.cells #[.string xt, .string xs, .slice x2 n2 c2, .slice x3 n3 c3] 45)))
      have ho1 := ho.alloc (.cells #[.string xt, .string xs, .slice x2 n2 c2, .slice x3 n3 c3] 45)
      generalize wr.alloc (.cells #[.string xt, .string xs, .slice x2 n2 c2, .slice x3 n3 c3] 45) = w1 at *
      generalize wr.heap.size = g1 at *
      have hos1 := ho1.size
      clear e0 e1 e2 e3 HO ho hos
      go_upto_region 6 with (at_builtin; go_loud (refine wpList_append_at (c := erE) (w0 := w) rfl _ _ 25 rfl 45 Tryz.underlying25 _ infoEnN rfl (Nat.zero_lt_succ 3) (.slice a3 l0.length c3') l0 [(⟨xt, xs, (x2, n2, c2), (x3, n3, c3)⟩ : Er)] rfl (HO1.out.old ((Old.refl w1).alloc _)) _ rfl (Recs.oneAt (c := erE) w1 45 (⟨xt, xs, (x2, n2, c2), (x3, n3, c3)⟩ : Er) rfl) (Nat.zero_lt_succ 0) (by simp; omega) (by simp; omega) (by simp; omega) ?_); intro g c6 w3 hown3 hg3 hat3 hlt3)
      have ho3 : Old w w3 := (ho1.alloc _).grown hg3 (fun k e => (World.ownsRow.lt HO1.out k e).1)
      have hg1 : w.heap.size ≤ g := (World.ownsRow.lt hown3 g rfl).1
      obtain ⟨x, hxe⟩ : ∃ x : Er, x = ⟨xt, xs, (x2, n2, c2), (x3, n3, c3)⟩ := ⟨_, rfl⟩
      have Hxe := Lib.hid hxe
      rw [← hxe] at hown3 Hst
      rw [← midA_end l0 x] at hown3
      have HS3 := Lib.hid (show OwnS erE 45 w w3 (.slice (some ⟨g, 0, none⟩) (l0.length + 1) c6) (midA l0 x l0.length) from hown3)
      have hsub : IntKind.i64.wrap (((l0.length + 1 : Nat) : Int) - 1) = (l0.length : Int) := by rw [show ((l0.length + 1 : Nat) : Int) - 1 = (l0.length : Int) from by omega]; exact IntWalk.i64_in _ (by omega)
      have hsub' : IntKind.i64.wrap ((l0.length : Int) + 1 - 1) = (l0.length : Int) := by rw [show (l0.length : Int) + 1 - 1 = (l0.length : Int) from by omega]; exact IntWalk.i64_in _ (by omega)
      obtain ⟨_, _, hb4, hb5, hb6⟩ := HS3.out.form
      clear hown3 hg3 hat3 hlt3 hd1 hd2 hos1 hb4 hb5 hb6 f0 f1 f2 f3 hxe HO1 ho1
      go_upto_region 7 with fail
      go_loopw [6] (fun kv wx => ∃ (k : Nat), kv = .int .i64 k ∧ k ≤ l0.length ∧ (∀ y ∈ l0.drop k, 0 < cmpR y x) ∧ OwnS erE 45 w wx (.slice (some ⟨g, 0, none⟩) (l0.length + 1) c6) (midA l0 x k) ∧ Old w wx) (fun kv _ => (intOf kv).toNat)
      case atStart => exact ⟨l0.length, rfl, Nat.le_refl _, fun y hy => by simp at hy, HS3.out, ho3⟩
      case round =>
        clear HS3 ho3 hsub hsub'
        obtain ⟨k, rfl, hk, hdr, hown, hoo⟩ := hrel
        have Hdr := Lib.hid hdr
        have HO := Lib.hid hown
        clear hdr
        cases k with
        | zero =>
          have hk0 : ¬ (0 : Int) < ((0 : Nat) : Int) := by decide
          have Hf := Lib.hid (midA_done (c := cmpR) (l := l0) (x := x) (k := 0) Hdr.out (fun j y e => by omega) (Nat.zero_le _))
          clear hown
          go_upto_region 7 with fail
          refine wp_region_old (Old.refl _) (by kernel_rfl) (by kernel_rfl) ?_
          repeat (go_big_quiet_step (fail))
          refine wpQuiet_nil ?_
          rintro ⟨wq, hq⟩
          dsimp only
          go_wp2_with fail
          go_roundw
          case rel => exact ⟨i + 1, by go_num, by omega, by rw [Hst.out, ← Hf.out]; exact HO.out.old hq, hoo.trans hq⟩
          case measure => simp [intOf]; omega
        | succ j =>
          obtain ⟨y, hy⟩ : ∃ y, l0[j]? = some y := ⟨_, List.getElem?_eq_getElem (by omega)⟩
          have hys := Hss.out y (List.mem_of_getElem? hy)
          have hk1 : (0 : Int) < ((j + 1 : Nat) : Int) := by omega
          have hw1 : IntKind.i64.wrap (((j + 1 : Nat) : Int) - 1) = (j : Int) := by rw [show ((j + 1 : Nat) : Int) - 1 = (j : Int) from by omega]; exact IntWalk.i64_in _ (by omega)
          have hw2 : IntKind.i64.wrap ((j : Int) + 1 - 1) = (j : Int) := by rw [show (j : Int) + 1 - 1 = (j : Int) from by omega]; exact IntWalk.i64_in _ (by omega)
          have hw3 : IntKind.i64.wrap (j : Int) = (j : Int) := IntWalk.i64_in _ (by omega)
          obtain ⟨y0, y1, y2, y3⟩ := er_cells hown (midA_prev (x := x) hy)
          obtain ⟨z0, z1, z2, z3⟩ := er_cells hown (midA_at l0 x (j + 1) hk)
          have hj1 : (j : Int) < (l0.length : Int) + 1 := by omega
          have hj2 : (j : Int) + 1 < (l0.length : Int) + 1 := by omega
          have Hswap := Lib.hid (midA_swap (x := x) hy)
          have Hyj := Lib.hid (midA_prev (x := x) hy)
          have Hturn := Lib.hid (fun h => drop_prev (p := fun z => 0 < cmpR z x) hy h Hdr.out)
          have Hstop : Hid (¬ 0 < cmpR y x → midA l0 x (j + 1) = srtStep cmpR l0 x) := Lib.hid fun h => midA_done (c := cmpR) Hdr.out (fun i z e hz => by
            obtain rfl : j = i := by omega
            obtain rfl := Option.some.inj (hy.symm.trans hz)
            exact h) hk
          have HC := Lib.hid (show ∀ V, Calls Tryz.prog 109 #[.string y.term, .string y.sub, .string x.term, .string x.sub] V fun e w' => e = .returned (.int .i64 (cmpR y x)) ∧ Old V w' from fun V => RLess_any y.term y.sub x.term x.sub V hys.1 hys.2.1 (by rw [Hxe.out]; exact hxs.1) (by rw [Hxe.out]; exact hxs.2.1) hys.2.2.1 hys.2.2.2 (by rw [Hxe.out]; exact hxs.2.2.1) (by rw [Hxe.out]; exact hxs.2.2.2))
          have Hys := Lib.hid hys
          clear hown hy hys
          generalize cmpR y x = cz at *
          go_upto_region 7 with fail
          refine wp_region_old (Old.refl _) (by kernel_rfl) (by kernel_rfl) ?_
          repeat (go_big_quiet_step (with_reducible exact Calls.in_old (HC.out _)))
          refine wpQuiet_nil ?_
          rintro ⟨wq, hq⟩
          dsimp only
          have HOq := Lib.hid (HO.out.old hq)
          by_cases hz : 0 < cz
          · have cy0 := y0 wq hq
            have cy1 := y1 wq hq
            have cy2 := y2 wq hq
            have cy3 := y3 wq hq
            have cz0 := z0 wq hq
            have cz1 := z1 wq hq
            have cz2 := z2 wq hq
            have cz3 := z3 wq hq
            clear y0 y1 y2 y3 z0 z1 z2 z3
            have fz := HOq.out.frozen
            have S1 := Lib.hid (er_put HOq.out Hyj.out x)
            have S2 := Lib.hid (er_put S1.out (i := j + 1) (by rw [List.getElem?_set_ne (by omega)]; exact midA_at l0 x (j + 1) hk) y)
            rw [Hswap.out] at S2
            have ow2 := Lib.hid ((((((((((hoo.trans hq).setCell (p := ⟨g, j * 4, none⟩) hg1 (.string x.term)).setCell (p := ⟨g, j * 4 + 1, none⟩) hg1 (.string x.sub)).setCell (p := ⟨g, j * 4 + 2, none⟩) hg1 x.s2.v).setCell (p := ⟨g, j * 4 + 3, none⟩) hg1 x.s3.v).setCell (p := ⟨g, (j + 1) * 4, none⟩) hg1 (.string y.term)).setCell (p := ⟨g, (j + 1) * 4 + 1, none⟩) hg1 (.string y.sub)).setCell (p := ⟨g, (j + 1) * 4 + 2, none⟩) hg1 y.s2.v).setCell (p := ⟨g, (j + 1) * 4 + 3, none⟩) hg1 y.s3.v))
            obtain ⟨yt, ys, ⟨ya, yn, yc⟩, ⟨yb, ym, yd⟩⟩ := y
            have hxe := Hxe.out
            subst hxe
            dsimp only [Sl.v] at cy0 cy1 cy2 cy3 cz0 cz1 cz2 cz3 S2 ow2
            have S3 := Lib.hid S2.out.drew
            have ow3 := Lib.hid ow2.out.drew
            clear S1 S2 ow2
            have fj0 := fz (j * 4)
            have fj1 := fz (j * 4 + 1)
            have fj2 := fz (j * 4 + 2)
            have fj3 := fz (j * 4 + 3)
            have fk0 := fz ((j + 1) * 4)
            have fk1 := fz ((j + 1) * 4 + 1)
            have fk2 := fz ((j + 1) * 4 + 2)
            have fk3 := fz ((j + 1) * 4 + 3)
            go_upto_region 9 with fail
            go_region
            all_goals
              go_wp2_with fail
              go_roundw
              case rel => exact ⟨j, by first | rfl | go_num, by omega, Hturn.out hz, S3.out, ow3.out⟩
              case measure => simp [intOf]; try omega
          · clear y0 y1 y2 y3 z0 z1 z2 z3
            go_wp2_with fail
            go_roundw
            case rel => exact ⟨i + 1, by go_num, by omega, by rw [Hst.out, ← Hstop.out hz]; exact HOq.out, hoo.trans hq⟩
            case measure => simp [intOf]; omega
    · obtain rfl : i = t.length := by omega
      have hi1 : ¬ (t.length : Int) < t.length := by omega
      rw [List.take_length] at HO
      go_wp2_with fail
      go_ret
      exact ⟨⟨_, rfl, HO.out⟩, ho⟩
end Go.Proofs.YtohngjkedhpikaaGreatDoor
/-
  KEYWORD, SA: the document's entries as entries that lie; sorted.
-/
namespace Go.Proofs.YtohngjkedhpikaaGreatDoor
open Go.RowKit Go.Maps

section
variable {w0 w W : World} {lv u : Value} {t : List Er} {L : List En} {own : Nat → Option Int} {M : List Mn}
theorem BR.both (h : BR w0 w lv t L own) : Both (ErR w) t L := ⟨h.len, fun i x e hx he => by
  obtain ⟨h1, h2, h3, h4, _, _⟩ := h.ent i x e hx he
  exact ⟨h1, h2, h3.ints, Txts.of_recs h4.recs⟩⟩
theorem BR.ents9 (h : BR w0 w lv t L own) : Ents w lv L := ⟨t, h.row.recs, h.both⟩
theorem BR.sizes (h : BR w0 w lv t L own) (hs : ∀ e ∈ L, e.term.size ≤ 4194304 ∧ e.sub.size ≤ 4194304 ∧ (foldS e.term).size ≤ 4194304 ∧ (foldS e.sub).size ≤ 4194304) :
    ∀ x ∈ t, x.term.size ≤ 4194304 ∧ x.sub.size ≤ 4194304 ∧ (foldS x.term).size ≤ 4194304 ∧ (foldS x.sub).size ≤ 4194304 := fun x hx => by
  obtain ⟨i, hi⟩ := List.getElem?_of_mem hx
  have hil := (List.getElem?_eq_some_iff.1 hi).1
  obtain ⟨e, he⟩ : ∃ e, L[i]? = some e := ⟨_, List.getElem?_eq_getElem (by rw [← h.len]; exact hil)⟩
  obtain ⟨h1, h2, _⟩ := h.ent i x e hi he
  rw [h1, h2]
  exact hs e (List.mem_of_getElem? he)
theorem sorted_ents {w1 : World} (hb : BR w0 W lv t (rawOf M) own) (h : OwnS erE 45 w1 W u (srt cmpR t)) : Ents W u (ixOf M) := by
  refine ⟨srt cmpR t, h.recs, ?_⟩
  rw [← raw_sorted]
  refine both_srt hb.both ?_
  intro x e x' e' k k'
  unfold cmpR cmpE plE
  rw [k.1, k.2.1, k'.1, k'.2.1]
theorem kept_six {B : Nat} {v0 v1 v2 v3 v4 v5 : Value} (w : World) : KeptX (fun g => g = B) w ((((((w.setCell ⟨B, 0, none⟩ v0).setCell ⟨B, 1, none⟩ v1).setCell ⟨B, 2, none⟩ v2).setCell ⟨B, 3, none⟩ v3).setCell ⟨B, 4, none⟩ v4).setCell ⟨B, 5, none⟩ v5) :=
  (((((KeptX.setCell (X := fun g => g = B) w B 0 v0 rfl).trans (KeptX.setCell _ B 1 v1 rfl)).trans (KeptX.setCell _ B 2 v2 rfl)).trans (KeptX.setCell _ B 3 v3 rfl)).trans (KeptX.setCell _ B 4 v4 rfl)).trans (KeptX.setCell _ B 5 v5 rfl)
theorem ents_last {w1 w2 V : World} {B : Nat} (hb : BR w0 w lv t (rawOf M) own) (o : Old w w1) (o2 : Old w1 w2) (h : OwnS erE 45 w1 w2 u (srt cmpR t)) (hB : B < w0.heap.size) (hk : KeptX (fun g => g = B) w2 V) : Ents V u (ixOf M) := by
  refine sorted_ents ((hb.old (o.trans o2)).kx hk fun g hg => ?_) (h.kx hk fun g hg e => ?_)
  · cases hc : own g with
    | none => rfl
    | some a => have := hb.base g a hc; omega
  · have h1 := (World.ownsRow.lt h g hg).1
    have h2 := hb.sz
    have h3 := o.size
    omega
end
/-- what the document's Build answers -/
def RetRB (w' : World) (ns nt : Nat) (M : List Mn) (e : Ending) : Prop :=
  (∃ f, buildK ns nt M = .error f ∧ e = .returned (.tuple #[.slice none 0 0, .agg (fltC f).toArray])) ∨
  (∃ l u, buildK ns nt M = .ok l ∧ e = .returned (.tuple #[u, .agg (fltC zeroF).toArray]) ∧ Ents w' u l)
end Go.Proofs.YtohngjkedhpikaaGreatDoor
/-
  KEYWORD, SB: faults that are none, faults that are the same.
-/
namespace Go.Proofs.YtohngjkedhpikaaGreatDoor
open Go.RowKit
attribute [local go_sem] Old.refl Old.alloc Old.drew Old.setCell OldW.old

set_option maxHeartbeats 800000 in
theorem All_nil9 (w : World) : Calls Tryz.prog 80 #[.nilIface] w fun e w' => e = .returned (.slice none 0 0) ∧ Old w w' := by
  go_enter Tryz.func80, Tryz.ntmps80
  go_wp2_with fail
  go_ret
  exact ⟨rfl, Old.refl _⟩
set_option maxRecDepth 100000 in
set_option maxHeartbeats 1600000 in
theorem Told_nil9 (w : World) : Calls Tryz.prog 38 #[.nilIface] w fun e w' => e = .returned (.agg (fltC ⟨0, 0, 0, 0, ⟨#[]⟩⟩).toArray) ∧ Old w w' := by
  have HA := Lib.hid (fun V => All_nil9 V)
  go_enter Tryz.func38, Tryz.ntmps38
  go_wp2_with fail
  refine (HA.out _).mono ?_
  rintro e w1 ⟨rfl, ho⟩
  have k0 : w.heap.size < w1.heap.size := by have := ho.size; simp [go_sem] at this; omega
  have c0 := ho.cell (p := ⟨w.heap.size, 0, none⟩) (by simp [go_sem]; rfl)
  have c1 := ho.cell (p := ⟨w.heap.size, 1, none⟩) (by simp [go_sem]; rfl)
  have c2 := ho.cell (p := ⟨w.heap.size, 2, none⟩) (by simp [go_sem]; rfl)
  have c3 := ho.cell (p := ⟨w.heap.size, 3, none⟩) (by simp [go_sem]; rfl)
  have c4 := ho.cell (p := ⟨w.heap.size, 4, none⟩) (by simp [go_sem]; rfl)
  have c5 := ho.cell (p := ⟨w.heap.size, 5, none⟩) (by simp [go_sem]; rfl)
  have hf : ∀ j, w1.frozen? ⟨w.heap.size, j, none⟩ = false := fun j => by
    rw [frozen_old ho (by simp [go_sem])]
    simp [go_sem]
  go_wp2_with fail
  (try simp only [Exit.inBlock, Exit.then])
  refine bodyPost_ret (v := .agg (fltC ⟨0, 0, 0, 0, ⟨#[]⟩⟩).toArray) (by simp [results, Tryz.results38, go_sem, c0, c1, c2, c3, c4, c5, fltC]) rfl ⟨rfl, ?_⟩
  have ho' := (((Old.refl w).alloc _).trans ho)
  exact (((((ho'.setCell (Nat.le_refl _) _).setCell (Nat.le_refl _) _).setCell (Nat.le_refl _) _).setCell (Nat.le_refl _) _).setCell (Nat.le_refl _) _).setCell (Nat.le_refl _) _
set_option maxRecDepth 100000 in
set_option maxHeartbeats 1600000 in
theorem RSameF9_any (f : Flt) (w : World) : Calls Tryz.prog 37 #[.agg (fltC f).toArray, .agg (fltC f).toArray] w fun e w' => e = .returned (.bool true) ∧ Old w w' := by
  have hs : (f.word.toList == f.word.toList) = true := by simp
  unfold fltC
  go_enter Tryz.func37, Tryz.ntmps37
  go_wp2_with fail
  refine wp_loop_rounds 1 ?_
  rw [rounds_succ]
  go_wp2_with fail
  go_ret
  exact ⟨rfl, ((Old.refl w).alloc _).alloc _⟩
end Go.Proofs.YtohngjkedhpikaaGreatDoor
/-
  KEYWORD, SD: the document's Build.
-/
namespace Go.Proofs.YtohngjkedhpikaaGreatDoor
open Go.RowKit Go.Maps
attribute [local go_sem] Old.refl Old.alloc Old.drew Old.setCell OldW.old

/-- the box of a fault that lies -/
structure GBox (f : Flt) (w : World) (B : Nat) : Prop where
  c0 : ∀ V, Old w V → V.cell? ⟨B, 0, none⟩ = some (.int .i64 f.code)
  c1 : ∀ V, Old w V → V.cell? ⟨B, 1, none⟩ = some (.int .i64 f.src)
  c2 : ∀ V, Old w V → V.cell? ⟨B, 2, none⟩ = some (.int .i64 f.line)
  c3 : ∀ V, Old w V → V.cell? ⟨B, 3, none⟩ = some (.int .i64 f.col)
  c4 : ∀ V, Old w V → V.cell? ⟨B, 4, none⟩ = some (.string f.word)
  c5 : ∀ V, Old w V → V.cell? ⟨B, 5, none⟩ = some (.slice none 0 0)
theorem GBox.new (f : Flt) (w : World) : GBox f (w.alloc (.cells #[.int .i64 f.code, .int .i64 f.src, .int .i64 f.line, .int .i64 f.col, .string f.word, .slice none 0 0] 72)) w.heap.size :=
  ⟨later (by simp [go_sem]), later (by simp [go_sem]), later (by simp [go_sem]), later (by simp [go_sem]), later (by simp [go_sem]), later (by simp [go_sem])⟩
set_option maxRecDepth 100000 in
set_option maxHeartbeats 6400000 in
theorem RBuild_any (v : Value) (S : List (List Tk)) (w : World) (hv : Srk w v S) (hM : (mns S S.length).length ≤ 1000) (hz : ∀ m ∈ mns S S.length, MnZ m) (ht : totK S S.length ≤ 1000) :
    Calls Tryz.prog 36 #[v] w fun e w' => RetRB w' S.length (totK S S.length) (mns S S.length) e ∧ Old w w' := by
  obtain ⟨sa, scap, rfl, hsc1, hsc2⟩ := Seqs.form hv
  have HAll := Lib.hid (fun V (o : Old w V) => all_any _ S V (hv.old o) hM hz (by omega))
  have HTe := Lib.hid (fun V (o : Old w V) => terms_any _ S V (hv.old o) hM hz)
  have HSe := Lib.hid (fun lv V (o : Old w V) hL hT => sees_any _ lv S V (hv.old o) hL hM hz hT)
  have Htot := Lib.hid (fun (a : Nat) (T : List Tk) (h : S[a]? = some T) => show totK S a + T.length ≤ 1000 from by
    have h1 := totK_mono S (show a + 1 ≤ S.length from (List.getElem?_eq_some_iff.1 h).1)
    rw [totK_succ h] at h1
    omega)
  have hpl : (places (mns S S.length)).length ≤ 1000 := Nat.le_trans (places_length _) hM
  have hmany : ¬ 10000 < (places (mns S S.length)).length := by omega
  have hnt : ¬ 1000 < totK S S.length := by omega
  have Hlong := Lib.hid (fun h : 64 < S.length => buildK_long (ns := S.length) (nt := totK S S.length) (M := mns S S.length) (.inl h))
  have Hterm := Lib.hid (fun (h : ¬ 64 < S.length) (f : Flt) h3 => buildK_term (f := f) (M := mns S S.length) (not_or.2 ⟨h, hnt⟩) hmany h3)
  have Hsee := Lib.hid (fun (h : ¬ 64 < S.length) (f : Flt) h3 h4 => buildK_see (f := f) (M := mns S S.length) (not_or.2 ⟨h, hnt⟩) hmany h3 h4)
  have Hok := Lib.hid (fun (h : ¬ 64 < S.length) h3 h4 => buildK_ok (M := mns S S.length) (not_or.2 ⟨h, hnt⟩) hmany h3 h4)
  have Hraw : Hid ((rawOf (mns S S.length)).length ≤ 1000) := Lib.hid (by rw [rawOf_length]; exact hpl)
  have Hsm := Lib.hid (raw_small hM hz)
  have Htc := Lib.hid (fun (m : Mn) (f : Flt) => termF_code (m := m) (f := f))
  have Hsc := Lib.hid (fun (m : Mn) (f : Flt) => seeF_code (M := mns S S.length) (m := m) (f := f))
  obtain ⟨bs, os, has, hats⟩ := Srk.open hv
  have Has := Lib.hid has
  have Hats := Lib.hid hats
  have HNT := Lib.hid ht
  clear hv has hats hz hM hpl hmany hnt ht
  go_enter Tryz.func36, Tryz.ntmps36
  go_upto_region 1 with fail
  have hwz : Old w (w.alloc (.cells #[.int .i64 0, .int .i64 0, .int .i64 0, .int .i64 0, .string ⟨#[]⟩, .slice none 0 0] 72)) := (Old.refl w).alloc _
  have HX := Lib.hid (FBox.new w)
  have hBz : w.heap.size < (w.alloc (.cells #[.int .i64 0, .int .i64 0, .int .i64 0, .int .i64 0, .string ⟨#[]⟩, .slice none 0 0] 72)).heap.size := by simp [go_sem]
  generalize w.alloc (.cells #[.int .i64 0, .int .i64 0, .int .i64 0, .int .i64 0, .string ⟨#[]⟩, .slice none 0 0] 72) = wz at *
  generalize hBB : w.heap.size = B at *
  have hBw : w.heap.size ≤ B := Nat.le_of_eq hBB
  have HBz : Hid (B < wz.heap.size) := Lib.hid hBz
  clear hBz hBB
  go_wp2_with fail
  go_loopw [4, 14] (fun c j wx => ∃ (i : Nat), c = .int .i64 (totK S i) ∧ j = .int .i64 i ∧ i ≤ S.length ∧ Old wz wx) (fun _ j _ => S.length - (intOf j).toNat)
  case atStart => exact ⟨0, rfl, rfl, Nat.zero_le _, Old.refl _⟩
  case round =>
    obtain ⟨i, rfl, rfl, hi, ho⟩ := hrel
    by_cases hlt : i < S.length
    · have hi1 : (i : Int) < S.length := by omega
      obtain ⟨T, hTi⟩ : ∃ T, S[i]? = some T := ⟨_, List.getElem?_eq_getElem hlt⟩
      obtain ⟨a0, n0, c0', ax, cx, hcs, hTs, k1, k2⟩ := Hats.out i T hTi
      obtain rfl := Has.out (by omega)
      have c0 : ∀ V, Old wr V → V.cell? ⟨bs, os + i * 2, none⟩ = some (.slice a0 n0 c0') := fun V o => (hcs V (hwz.trans (ho.trans o))).1
      have c1 : ∀ V, Old wr V → V.cell? ⟨bs, os + i * 2 + 1, none⟩ = some (.slice ax T.length cx) := fun V o => (hcs V (hwz.trans (ho.trans o))).2
      have htt := Htot.out i T hTi
      have Hsuc : Hid (totK S (i + 1) = totK S i + T.length) := Lib.hid (totK_succ hTi)
      clear hcs hTs hTi
      generalize totK S i = n at *
      go_upto_region 5 with fail
      have d1 := later (show (wr.alloc (.cells #[.slice a0 n0 c0', .slice ax T.length cx] 33)).cell? ⟨wr.heap.size, 1, none⟩ = some (.slice ax T.length cx) by simp [go_sem])
      have ho1 := ho.alloc (.cells #[.slice a0 n0 c0', .slice ax T.length cx] 33)
      generalize wr.alloc (.cells #[.slice a0 n0 c0', .slice ax T.length cx] 33) = w1 at *
      generalize wr.heap.size = g1 at *
      clear c0 c1 ho
      go_wp2_with fail
      go_roundw
      case rel => exact ⟨i + 1, by rw [Hsuc.out]; go_num, by go_num, by omega, ho1⟩
      case measure => simp [intOf]; omega
    · obtain rfl : i = S.length := by omega
      have hi1 : ¬ (S.length : Int) < S.length := by omega
      clear Htot Hats Has
      have hnt : totK S S.length ≤ 1000 := HNT.out
      go_upto_region 8 with (go_at_call 75; refine (At_any 2 0 0 0 ⟨#[]⟩ _).mono ?_; rintro e w5 ⟨rfl, o5⟩; simp only [fltC])
      have HL := Lib.hid (GBox.new longF w5)
      have ho6 := (ho.trans o5).alloc (.cells #[.int .i64 2, .int .i64 0, .int .i64 0, .int .i64 0, .string ⟨#[]⟩, .slice none 0 0] 72)
      simp only [longF, noB] at HL
      generalize w5.alloc (.cells #[.int .i64 2, .int .i64 0, .int .i64 0, .int .i64 0, .string ⟨#[]⟩, .slice none 0 0] 72) = w6 at *
      generalize w5.heap.size = g6 at *
      clear ho o5
      by_cases h64 : 64 < S.length
      · have h1 : (64 : Int) < S.length := by omega
        have HB := Lib.hid (Hlong.out h64)
        have l0 := HL.out.c0
        have l1 := HL.out.c1
        have l2 := HL.out.c2
        have l3 := HL.out.c3
        have l4 := HL.out.c4
        have l5 := HL.out.c5
        have q0 := fun V (o : Old w6 V) => HX.out.c0 V (ho6.trans o)
        have q1 := fun V (o : Old w6 V) => HX.out.c1 V (ho6.trans o)
        have q2 := fun V (o : Old w6 V) => HX.out.c2 V (ho6.trans o)
        have q3 := fun V (o : Old w6 V) => HX.out.c3 V (ho6.trans o)
        have q4 := fun V (o : Old w6 V) => HX.out.c4 V (ho6.trans o)
        have q5 := fun V (o : Old w6 V) => HX.out.c5 V (ho6.trans o)
        have qf := fun V (o : Old w6 V) => HX.out.fz V (ho6.trans o)
        go_upto_region 9 with fail
        go_region
        all_goals
          go_wp2_with fail
          (try simp only [Exit.inBlock, Exit.then])
          refine bodyPost_ret (v := .tuple #[.slice none 0 0, .agg (fltC ⟨2, 0, 0, 0, ⟨#[]⟩⟩).toArray]) (by simp [results, Tryz.results36, go_sem, q0, q1, q2, q3, q4, q5, fltC]) rfl ⟨.inl ⟨_, HB.out, rfl⟩, ?_⟩
          first
            | exact (old_six (hwz.trans ho6) hBw).drew
            | exact old_six (hwz.trans ho6).drew hBw
      · have h1 : ¬ (64 : Int) < S.length := by omega
        clear HL Hlong
        have h2 : ¬ (1000 : Int) < totK S S.length := by omega
        go_upto_region 11 with (go_at_call 76; refine (HAll.out _ (hwz.trans ho6)).mono ?_; rintro e w7 ⟨⟨lv, t, own, rfl, hb⟩, o7⟩; obtain ⟨la, lc, hlv, hlc1, hlc2⟩ := Seqs.form hb.ents9; subst hlv; have HBr := Lib.hid hb; have ho7 := ho6.trans o7; clear hb)
        have h10 : ¬ (10000 : Int) < (rawOf (mns S S.length)).length := by have := Hraw.out; omega
        have HB6 : Hid (B < w6.heap.size) := Lib.hid (by have := ho6.size; have := HBz.out; omega)
        clear ho6 HAll
        cases hT : (mns S S.length).findSome? termF with
        | some f =>
          obtain ⟨m, _, hm⟩ := List.exists_of_findSome?_eq_some hT
          have hc := Htc.out m f hm
          have HB := Lib.hid (Hterm.out h64 f hT)
          rw [hT] at HTe
          obtain ⟨fc, fs, fl, fo, fw⟩ := f
          dsimp only at hc
          subst hc
          dsimp only [Option.getD_some] at HTe
          clear hm hT
          go_upto_region 15 with (go_at_call 77; refine (HTe.out _ (hwz.trans ho7)).mono ?_; rintro e w8 ⟨rfl, o8⟩; simp only [fltC])
          have HL := Lib.hid (GBox.new ⟨90, fs, fl, fo, fw⟩ w8)
          have ho9 := (ho7.trans o8).alloc (.cells #[.int .i64 90, .int .i64 fs, .int .i64 fl, .int .i64 fo, .string fw, .slice none 0 0] 72)
          dsimp only at HL
          generalize w8.alloc (.cells #[.int .i64 90, .int .i64 fs, .int .i64 fl, .int .i64 fo, .string fw, .slice none 0 0] 72) = w9 at *
          generalize w8.heap.size = g9 at *
          have l0 := HL.out.c0
          have l1 := HL.out.c1
          have l2 := HL.out.c2
          have l3 := HL.out.c3
          have l4 := HL.out.c4
          have l5 := HL.out.c5
          have q0 := fun V (o : Old w9 V) => HX.out.c0 V (ho9.trans o)
          have q1 := fun V (o : Old w9 V) => HX.out.c1 V (ho9.trans o)
          have q2 := fun V (o : Old w9 V) => HX.out.c2 V (ho9.trans o)
          have q3 := fun V (o : Old w9 V) => HX.out.c3 V (ho9.trans o)
          have q4 := fun V (o : Old w9 V) => HX.out.c4 V (ho9.trans o)
          have q5 := fun V (o : Old w9 V) => HX.out.c5 V (ho9.trans o)
          have qf := fun V (o : Old w9 V) => HX.out.fz V (ho9.trans o)
          go_upto_region 16 with fail
          go_region
          all_goals
            go_wp2_with fail
            (try simp only [Exit.inBlock, Exit.then])
            refine bodyPost_ret (v := .tuple #[.slice none 0 0, .agg (fltC ⟨90, fs, fl, fo, fw⟩).toArray]) (by simp [results, Tryz.results36, go_sem, q0, q1, q2, q3, q4, q5, fltC]) rfl ⟨.inl ⟨_, HB.out, rfl⟩, ?_⟩
            first
              | exact (old_six (hwz.trans ho9) hBw).drew
              | exact old_six (hwz.trans ho9).drew hBw
        | none =>
          rw [hT] at HTe
          dsimp only [Option.getD_none, zeroF] at HTe
          have HSe' := Lib.hid (fun lv V (o : Old w V) hL => HSe.out lv V o hL hT)
          have HT := Lib.hid hT
          clear hT HSe
          go_upto_region 15 with (go_at_call 77; refine (HTe.out _ (hwz.trans ho7)).mono ?_; rintro e w8 ⟨rfl, o8⟩; simp only [fltC])
          have HL := Lib.hid (GBox.new ⟨0, 0, 0, 0, ⟨#[]⟩⟩ w8)
          have l0 := HL.out.c0
          have ho9 := (ho7.trans o8).alloc (.cells #[.int .i64 0, .int .i64 0, .int .i64 0, .int .i64 0, .string ⟨#[]⟩, .slice none 0 0] 72)
          have ho79 := o8.alloc (.cells #[.int .i64 0, .int .i64 0, .int .i64 0, .int .i64 0, .string ⟨#[]⟩, .slice none 0 0] 72)
          dsimp only at l0
          generalize w8.alloc (.cells #[.int .i64 0, .int .i64 0, .int .i64 0, .int .i64 0, .string ⟨#[]⟩, .slice none 0 0] 72) = w9 at *
          generalize w8.heap.size = g9 at *
          clear HL
          go_upto_region 17 with fail
          clear l0
          have HSc := Lib.hid (HSe'.out _ w9 (hwz.trans ho9) ((HBr.out.old ho79).ents9))
          cases hS : (mns S S.length).findSome? (seeF (mns S S.length)) with
          | some f =>
            obtain ⟨m, _, hm⟩ := List.exists_of_findSome?_eq_some hS
            have hc := Hsc.out m f hm
            have HB := Lib.hid (Hsee.out h64 f HT.out hS)
            rw [hS] at HSc
            obtain ⟨fc, fs, fl, fo, fw⟩ := f
            dsimp only at hc
            have hne : ¬ fc = 0 := by omega
            have hnb : (fc == 0) = false := by rw [beq_eq_false_iff_ne]; exact hne
            have hnn : (fc != 0) = true := by rw [bne_iff_ne]; exact hne
            dsimp only [Option.getD_some] at HSc
            clear hm hS hc
            go_upto_region 18 with (go_at_call 78; refine HSc.out.mono ?_; rintro e w10 ⟨rfl, o10⟩; simp only [fltC])
            have HL := Lib.hid (GBox.new ⟨fc, fs, fl, fo, fw⟩ w10)
            have ho11 := (ho9.trans o10).alloc (.cells #[.int .i64 fc, .int .i64 fs, .int .i64 fl, .int .i64 fo, .string fw, .slice none 0 0] 72)
            dsimp only at HL
            generalize w10.alloc (.cells #[.int .i64 fc, .int .i64 fs, .int .i64 fl, .int .i64 fo, .string fw, .slice none 0 0] 72) = w11 at *
            generalize w10.heap.size = g11 at *
            have l0 := HL.out.c0
            have l1 := HL.out.c1
            have l2 := HL.out.c2
            have l3 := HL.out.c3
            have l4 := HL.out.c4
            have l5 := HL.out.c5
            have q0 := fun V (o : Old w11 V) => HX.out.c0 V (ho11.trans o)
            have q1 := fun V (o : Old w11 V) => HX.out.c1 V (ho11.trans o)
            have q2 := fun V (o : Old w11 V) => HX.out.c2 V (ho11.trans o)
            have q3 := fun V (o : Old w11 V) => HX.out.c3 V (ho11.trans o)
            have q4 := fun V (o : Old w11 V) => HX.out.c4 V (ho11.trans o)
            have q5 := fun V (o : Old w11 V) => HX.out.c5 V (ho11.trans o)
            have qf := fun V (o : Old w11 V) => HX.out.fz V (ho11.trans o)
            go_upto_region 19 with fail
            go_region
            all_goals
              go_wp2_with fail
              (try simp only [Exit.inBlock, Exit.then])
              refine bodyPost_ret (v := .tuple #[.slice none 0 0, .agg (fltC ⟨fc, fs, fl, fo, fw⟩).toArray]) (by simp [results, Tryz.results36, go_sem, q0, q1, q2, q3, q4, q5, fltC]) rfl ⟨.inl ⟨_, HB.out, rfl⟩, ?_⟩
              first
                | exact (old_six (hwz.trans ho11) hBw).drew
                | exact old_six (hwz.trans ho11).drew hBw
          | none =>
            have HB := Lib.hid (Hok.out h64 HT.out hS)
            rw [hS] at HSc
            dsimp only [Option.getD_none, zeroF] at HSc
            clear hS
            go_upto_region 18 with (go_at_call 78; refine HSc.out.mono ?_; rintro e w10 ⟨rfl, o10⟩; simp only [fltC])
            have HL := Lib.hid (GBox.new ⟨0, 0, 0, 0, ⟨#[]⟩⟩ w10)
            have l0 := HL.out.c0
            have ho11 := (ho9.trans o10).alloc (.cells #[.int .i64 0, .int .i64 0, .int .i64 0, .int .i64 0, .string ⟨#[]⟩, .slice none 0 0] 72)
            have o711 := (ho79.trans o10).alloc (.cells #[.int .i64 0, .int .i64 0, .int .i64 0, .int .i64 0, .string ⟨#[]⟩, .slice none 0 0] 72)
            dsimp only at l0
            generalize w10.alloc (.cells #[.int .i64 0, .int .i64 0, .int .i64 0, .int .i64 0, .string ⟨#[]⟩, .slice none 0 0] 72) = w11 at *
            generalize w10.heap.size = g11 at *
            clear HL
            go_upto_region 20 with fail
            clear l0
            have HSo := Lib.hid (Sort_any _ t w6 w11 (HBr.out.old o711).row (by rw [HBr.out.len]; have := Hraw.out; omega) (HBr.out.sizes fun e he => (Hsm.out e he).1))
            go_wp2_with (go_at_call 79; refine HSo.out.mono ?_; rintro e w12 ⟨⟨u, rfl, hown⟩, o12⟩; have HOw := Lib.hid hown; clear hown; have ho12 := ho11.trans o12; have q0 := HX.out.c0 _ ho12; have q1 := HX.out.c1 _ ho12; have q2 := HX.out.c2 _ ho12; have q3 := HX.out.c3 _ ho12; have q4 := HX.out.c4 _ ho12; have q5 := HX.out.c5 _ ho12; have qf := HX.out.fz _ ho12)
            (try simp only [Exit.inBlock, Exit.then])
            refine bodyPost_ret (v := .tuple #[u, .agg (fltC zeroF).toArray]) (by simp [results, Tryz.results36, go_sem, q0, q1, q2, q3, q4, q5, fltC, zeroF]) rfl ⟨.inr ⟨_, u, HB.out, rfl, ents_last HBr.out o711 o12 HOw.out HB6.out (kept_six _)⟩, old_six (hwz.trans ho12) hBw⟩
end Go.Proofs.YtohngjkedhpikaaGreatDoor
