/-
  KeywordAll: every key of every topic is in the index, and nothing else: the walk.
-/
import Derived.Test.YtohngjkedhpikaaGreatDoorZKwA2
import Derived.Test.YtohngjkedhpikaaGreatDoorZLaid
namespace Go.Proofs.YtohngjkedhpikaaGreatDoor
open Go.RowKit
attribute [local go_sem] Old.refl Old.alloc Old.drew Old.setCell OldW.old

theorem retC_zero {l : List En} {n : Int} {e : Ending} (h : RetC l n e) (hk : CheckK l n 0 0) : e = .returned (.tuple #[.int .i64 0, .int .i64 0]) := by
  obtain ⟨a, c, rfl, hc⟩ := h
  obtain ⟨rfl, rfl⟩ := hc.unique hk
  rfl
set_option maxRecDepth 100000 in
set_option maxHeartbeats 6400000 in
theorem keywordAll_row_walk (W : World) (hT : Tabs W) (S : List (List Tk)) (v : Value) (hv : Srk W v S) (hS : S.length ≤ 1048576) (hB : ∀ T ∈ S, T.length ≤ 1048576 ∧ ∀ t ∈ T, TkB t 1048576) :
    Calls Tryz.prog 3 #[v] W fun e w' => e = .returned (.bool true) ∧ Old W w' := by
  obtain ⟨sa, scap, rfl, hsc1, hsc2⟩ := Seqs.form hv
  have HA := Lib.hid (awake_any W hT)
  have HN := Lib.hid (fun V (o : Old W V) => few_any _ S V (hv.old o) (few_bound hS hB))
  by_cases hfw : totN S S.length ≤ 300 ∧ S.length ≤ 200
  · have hfd : (decide (totN S S.length ≤ 300) && decide (S.length ≤ 200)) = true := by simp [hfw]
    rw [hfd] at HN
    obtain ⟨hm1, hm2⟩ := few_facts hB
    have hM : (mns S S.length).length ≤ 1000 := by have := hfw.1; unfold totN at this; omega
    have htk : totK S S.length ≤ 300 := by have := hfw.1; unfold totN at this; omega
    have HBd := Lib.hid (fun V (o : Old W V) => Build_any _ S V (hv.old o) (hT.old o) hM (by omega) hm1 hm2)
    have Hsm := Lib.hid (ix_small hM hm1 hm2)
    have Hln : Hid ((ixOf (mns S S.length)).length ≤ 1000) := Lib.hid (by rw [ixOf_length]; exact Nat.le_trans (places_length _) hM)
    have Hsl := Lib.hid (ix_sees_len hM)
    have Htl := Lib.hid (ix_tops_len hM)
    have Hrise := Lib.hid (fun e (he : e ∈ ixOf (mns S S.length)) => ent_rise (S := S) he)
    have Hent := Lib.hid (fun (a b : Nat) (T : List Tk) (t : Tk) (h1 : S[a]? = some T) (h2 : T[b]? = some t) e (he : e ∈ ixOf (mns S S.length)) => ent_num h1 h2 he)
    have Hkey := Lib.hid (fun (a b : Nat) (T : List Tk) (t : Tk) (h1 : S[a]? = some T) (h2 : T[b]? = some t) (k : Kq) (hk : k ∈ t.keys) => key_num h1 h2 hk)
    have Hck := Lib.hid (fun (hg : GoodM (mns S S.length)) => check_ix hg (mns_rise S S.length (Nat.le_refl _)) (fun m hm => mns_see hm) (Nat.le_trans (places_length _) (by omega)))
    have HKz : Hid (∀ (a b : Nat) (T : List Tk) (t : Tk), S[a]? = some T → T[b]? = some t → t.keys.length ≤ 1000 ∧ ∀ k ∈ t.keys, k.term.size ≤ 4194304 ∧ k.sub.size ≤ 4194304) := Lib.hid fun a b T t h1 h2 => by
      have hsub : ∀ k ∈ t.keys, mnK ((totK S a + b : Nat) : Int) a k ∈ mns S S.length := fun k hk => mem_mns.2 ⟨a, b, T, t, (List.getElem?_eq_some_iff.1 h1).1, h1, h2, by rw [mnT, List.mem_append, List.mem_map]; exact .inl ⟨k, hk, rfl⟩⟩
      refine ⟨?_, fun k hk => ⟨(hm1 _ (hsub k hk)).1, (hm1 _ (hsub k hk)).2.1⟩⟩
      have h3 := mns_room h1 h2
      omega
    obtain ⟨bs, os, has, hats⟩ := Srk.open hv
    have Has := Lib.hid has
    have Hats := Lib.hid hats
    have HT := Lib.hid hT
    have Htk := Lib.hid htk
    clear hfw hfd hm1 hm2 hM htk hT hv hB hS has hats
    generalize mns S S.length = M at *
    go_enter Tryz.func3, Tryz.ntmps3
    go_upto_region 6 with (first
      | (go_at_call 9; refine HA.out.mono ?_; rintro e w1 ⟨rfl, o1⟩)
      | (go_at_call 10; refine (HN.out _ o1).mono ?_; rintro e w2 ⟨rfl, o2⟩; have o12 := o1.trans o2)
      | (go_at_call 11; refine (HBd.out _ o12).mono ?_; rintro e w3 ⟨hR, o3⟩; have o13 := o12.trans o3; rcases hR.split with ⟨g, rfl⟩ | ⟨a, c, l, rfl, hc1, hc2, hEn, Hg, Hix⟩))
    · clear hR
      go_wp2_with fail
      go_ret
      exact ⟨rfl, o13⟩
    · clear hR HA HN HBd
      rw [← Hix.out] at Hsm Hln Hsl Htl Hrise Hent Hkey Hck
      have HEn := Lib.hid hEn
      have HT3 := Lib.hid (HT.out.old o13)
      have hln := Hln.out
      have O13 := Lib.hid o13
      have HCk := Lib.hid (fun V (o : Old w3 V) => Check_any _ l (totK S S.length : Int) V (HEn.out.old o) (HT3.out.old o) Hsl.out Hsm.out)
      have HTo := Lib.hid (fun s (hs : s.size ≤ 4194304) V (o : Old w3 V) => Topics_any _ l s V (HEn.out.old o) (HT3.out.old o) hs (by omega) Htl.out (fun e he => (Hsm.out e he).1))
      have Hz := Lib.hid (Hck.out Hg.out)
      have H0 := Lib.hid (allN_zero (l := l) (n := 0) (fun e he x hx => ((Hrise.out e he).2 x hx).1) l.length)
      have Hend := Lib.hid (allN_all (l := l) (n := (totK S S.length : Int)) (fun e he x hx => ((Hrise.out e he).2 x hx).2) l.length)
      have Hstep := Lib.hid (fun n : Int => allN_step (l := l) (n := n) (fun e he => (Hrise.out e he).1) l.length)
      have Hbd : Hid (∀ (n : Int) (q : Nat), allN l n q ≤ 1000000 ∧ hasN l n q ≤ q ∧ lenN l q ≤ 1000000) := Lib.hid fun n q => by
        have h1 := allN_le l n q
        have h2 := lenN_flat l q
        have h3 := Htl.out
        exact ⟨by omega, hasN_le l n q, by omega⟩
      obtain ⟨eb, eoff, hea, heat⟩ := Ents.open HEn.out
      have Hea := Lib.hid hea
      have Heat := Lib.hid heat
      clear hEn HT Hck hea heat o1 o2 o12 o3
      go_wp2_with fail
      go_loopw [5, 6, 33] (fun x y j wx => ∃ i : Nat, j = .int .i64 i ∧ i ≤ S.length ∧ x = .int .i64 (totK S i : Nat) ∧ y = .int .i64 (allN l (totK S i : Nat) l.length : Nat) ∧ Old w3 wx) (fun _ _ j _ => S.length - (intOf j).toNat)
      case atStart => exact ⟨0, rfl, Nat.zero_le _, rfl, by rw [show ((totK S 0 : Nat) : Int) = 0 from rfl, H0.out]; rfl, Old.refl _⟩
      case round =>
        obtain ⟨i, rfl, hi, rfl, rfl, ho⟩ := hrel
        have hbd := (Hbd.out (totK S i : Nat) l.length).1
        have htm := totK_mono S hi
        have htk := Htk.out
        by_cases hlt : i < S.length
        · have hi1 : (i : Int) < S.length := by omega
          obtain ⟨T, hTi⟩ : ∃ T, S[i]? = some T := ⟨_, List.getElem?_eq_getElem hlt⟩
          obtain ⟨a0, n0, c0', ax, cx, hcs, hTs, k1, k2⟩ := Hats.out i T hTi
          obtain rfl := Has.out (by omega)
          have c0 : ∀ V, Old wr V → V.cell? ⟨bs, os + i * 2, none⟩ = some (.slice a0 n0 c0') := fun V o => (hcs V (O13.out.trans (ho.trans o))).1
          have c1 : ∀ V, Old wr V → V.cell? ⟨bs, os + i * 2 + 1, none⟩ = some (.slice ax T.length cx) := fun V o => (hcs V (O13.out.trans (ho.trans o))).2
          obtain ⟨bt, ot, hat, hatt⟩ := Trs.open hTs
          have HTi := Lib.hid hTi
          have Hat := Lib.hid hat
          have Hatt := Lib.hid hatt
          have htn1 := totK_succ hTi
          have htm1 := totK_mono S (show i + 1 ≤ S.length from hlt)
          have Htn1 := Lib.hid htn1
          have oa : Old wr (wr.alloc (.cells #[.slice a0 n0 c0', .slice ax T.length cx] 33)) := (Old.refl wr).alloc _
          clear hcs hTs hat hatt hTi
          go_upto_region 12 with fail
          have d1 := later (show (wr.alloc (.cells #[.slice a0 n0 c0', .slice ax T.length cx] 33)).cell? ⟨wr.heap.size, 1, none⟩ = some (.slice ax T.length cx) by simp [go_sem])
          have o1 := ho.trans oa
          generalize wr.alloc (.cells #[.slice a0 n0 c0', .slice ax T.length cx] 33) = w1 at *
          generalize wr.heap.size = g1 at *
          clear c0 c1 ho oa
          go_wp2_with fail
          go_loopw [5, 6, 40] (fun x y j wx => ∃ k : Nat, j = .int .i64 k ∧ k ≤ T.length ∧ x = .int .i64 (totK S i + k : Nat) ∧ y = .int .i64 (allN l (totK S i + k : Nat) l.length : Nat) ∧ Old w3 wx) (fun _ _ j _ => T.length - (intOf j).toNat)
          case atStart => exact ⟨0, rfl, Nat.zero_le _, rfl, rfl, o1⟩
          case round =>
            clear d1 o1 hbd
            obtain ⟨k, rfl, hk, rfl, rfl, ho⟩ := hrel
            by_cases hlt2 : k < T.length
            · have hk1 : (k : Int) < T.length := by omega
              obtain ⟨t, htk'⟩ : ∃ t, T[k]? = some t := ⟨_, List.getElem?_eq_getElem hlt2⟩
              obtain ⟨kd, nm, ti, lv, a4, c4', a5, c5', a6, n6, c6', ln, hcs, hK4, hK5⟩ := Hatt.out k t htk'
              obtain rfl := Hat.out (by omega)
              have HEnt := Lib.hid (fun e (he : e ∈ l) => Hent.out i k T t HTi.out htk' e he)
              have HKey := Lib.hid (fun x (hx : x ∈ t.keys) => Hkey.out i k T t HTi.out htk' x hx)
              have HKz' := Lib.hid (HKz.out i k T t HTi.out htk')
              have hkl := HKz'.out.1
              have g0 : ∀ V, Old wr V → V.cell? ⟨bt, ot + k * 8, none⟩ = some (.int .i64 kd) := fun V o => (hcs V (O13.out.trans (ho.trans o))).1
              have g1' : ∀ V, Old wr V → V.cell? ⟨bt, ot + k * 8 + 1, none⟩ = some (.string nm) := fun V o => (hcs V (O13.out.trans (ho.trans o))).2.1
              have g2 : ∀ V, Old wr V → V.cell? ⟨bt, ot + k * 8 + 2, none⟩ = some (.string ti) := fun V o => (hcs V (O13.out.trans (ho.trans o))).2.2.1
              have g3 : ∀ V, Old wr V → V.cell? ⟨bt, ot + k * 8 + 3, none⟩ = some (.int .i64 lv) := fun V o => (hcs V (O13.out.trans (ho.trans o))).2.2.2.1
              have g4 : ∀ V, Old wr V → V.cell? ⟨bt, ot + k * 8 + 4, none⟩ = some (.slice a4 t.keys.length c4') := fun V o => (hcs V (O13.out.trans (ho.trans o))).2.2.2.2.1
              have g5 : ∀ V, Old wr V → V.cell? ⟨bt, ot + k * 8 + 5, none⟩ = some (.slice a5 t.sees.length c5') := fun V o => (hcs V (O13.out.trans (ho.trans o))).2.2.2.2.2.1
              have g6 : ∀ V, Old wr V → V.cell? ⟨bt, ot + k * 8 + 6, none⟩ = some (.slice a6 n6 c6') := fun V o => (hcs V (O13.out.trans (ho.trans o))).2.2.2.2.2.2.1
              have g7 : ∀ V, Old wr V → V.cell? ⟨bt, ot + k * 8 + 7, none⟩ = some (.int .i64 ln) := fun V o => (hcs V (O13.out.trans (ho.trans o))).2.2.2.2.2.2.2
              obtain ⟨b4, o4, ha4, h4⟩ := Kqs.open hK4
              have Ha4 := Lib.hid ha4
              have H4 := Lib.hid h4
              have hst := Hstep.out ((totK S i + k : Nat) : Int)
              rw [show ((totK S i + k : Nat) : Int) + 1 = ((totK S i + (k + 1) : Nat) : Int) by omega] at hst
              have Hst := Lib.hid hst
              have hb1 := (Hbd.out ((totK S i + k : Nat) : Int) l.length).1
              have htn3 : totK S i + k ≤ 300 := by omega
              clear hcs hK4 hK5 ha4 h4 htk' hst
              go_upto_region 15 with fail
              have oa : Old wr (wr.alloc (.cells #[.int .i64 kd, .string nm, .string ti, .int .i64 lv, .slice a4 t.keys.length c4', .slice a5 t.sees.length c5', .slice a6 n6 c6', .int .i64 ln] 38)) := (Old.refl wr).alloc _
              have C4 := later (show (wr.alloc (.cells #[.int .i64 kd, .string nm, .string ti, .int .i64 lv, .slice a4 t.keys.length c4', .slice a5 t.sees.length c5', .slice a6 n6 c6', .int .i64 ln] 38)).cell? ⟨wr.heap.size, 4, none⟩ = some (.slice a4 t.keys.length c4') by simp [go_sem])
              have oA := ho.trans oa
              generalize wr.alloc (.cells #[.int .i64 kd, .string nm, .string ti, .int .i64 lv, .slice a4 t.keys.length c4', .slice a5 t.sees.length c5', .slice a6 n6 c6', .int .i64 ln] 38) = wA at *
              generalize wr.heap.size = g at *
              clear g0 g1' g2 g3 g4 g5 g6 g7 oa ho
              generalize htn : totK S i + k = tn at *
              generalize allN l ((tn : Nat) : Int) l.length = A at *
              have HC4 := Lib.hid C4
              have HoA := Lib.hid oA
              go_wp2_with fail
              go_loopw [6, 46] (fun y j wx => ∃ q : Nat, j = .int .i64 q ∧ q ≤ l.length ∧ y = .int .i64 (A + hasN l tn q : Nat) ∧ Old wA wx) (fun _ j _ => l.length - (intOf j).toNat)
              case atStart => exact ⟨0, rfl, Nat.zero_le _, rfl, Old.refl _⟩
              case round =>
                clear C4 oA
                obtain ⟨q, rfl, hq, rfl, ho⟩ := hrel
                have hbh := (Hbd.out tn q).2.1
                by_cases hlt3 : q < l.length
                · have hq1 : (q : Int) < l.length := by omega
                  obtain ⟨e, he⟩ : ∃ e, l[q]? = some e := ⟨_, List.getElem?_eq_getElem hlt3⟩
                  have hem := List.mem_of_getElem? he
                  obtain rfl := Hea.out (by omega)
                  obtain ⟨x2, y2, x3, y3, hcs, hIs, _⟩ := Heat.out q e he
                  have E0 := Lib.hid (fun V (o : Old wA V) => (hcs V (HoA.out.trans o)).1)
                  have E1 := Lib.hid (fun V (o : Old wA V) => (hcs V (HoA.out.trans o)).2.1)
                  have E2 := Lib.hid (fun V (o : Old wA V) => (hcs V (HoA.out.trans o)).2.2.1)
                  have hsuc := hasN_succ (n := (tn : Int)) he
                  have Hsuc := Lib.hid hsuc
                  have HE := Lib.hid (HEnt.out e hem)
                  have HI := Lib.hid hIs
                  have hes := Hsm.out e hem
                  have Hes := Lib.hid (And.intro hes.1 hes.2.1)
                  have k4 : ∀ V, Old wr V → V.cell? ⟨g, 4, none⟩ = some (.slice a4 t.keys.length c4') := fun V o => HC4.out V (ho.trans o)
                  clear hcs hIs hes he hsuc
                  go_wp2_with fail
                  go_loopw [6, 52] (fun y j wx => ∃ m : Nat, j = .int .i64 m ∧ m ≤ t.keys.length ∧ y = .int .i64 (A + hasN l tn q : Nat) ∧ (∀ (i' : Nat) (y : Kq), i' < m → t.keys[i']? = some y → ¬ (foldS y.term = foldS e.term ∧ foldS y.sub = foldS e.sub)) ∧ Old wA wx) (fun _ j _ => t.keys.length - (intOf j).toNat)
                  case atStart => exact ⟨0, rfl, Nat.zero_le _, rfl, fun i' y h => absurd h (Nat.not_lt_zero i'), ho⟩
                  case round =>
                    clear k4 ho
                    obtain ⟨m, rfl, hm, rfl, hno, ho⟩ := hrel
                    have Hno := Lib.hid hno
                    clear hno
                    by_cases hlt4 : m < t.keys.length
                    · have hm1 : (m : Int) < t.keys.length := by omega
                      obtain ⟨x, hx⟩ : ∃ x, t.keys[m]? = some x := ⟨_, List.getElem?_eq_getElem hlt4⟩
                      obtain rfl := Ha4.out (by omega)
                      have d0 : ∀ V, Old wr V → V.cell? ⟨b4, o4 + m * 3, none⟩ = some (.string x.term) := fun V o => (H4.out m x hx V (O13.out.trans (HoA.out.trans (ho.trans o)))).1
                      have d1 : ∀ V, Old wr V → V.cell? ⟨b4, o4 + m * 3 + 1, none⟩ = some (.string x.sub) := fun V o => (H4.out m x hx V (O13.out.trans (HoA.out.trans (ho.trans o)))).2.1
                      have d2 : ∀ V, Old wr V → V.cell? ⟨b4, o4 + m * 3 + 2, none⟩ = some (.int .i64 x.line) := fun V o => (H4.out m x hx V (O13.out.trans (HoA.out.trans (ho.trans o)))).2.2
                      have hxs := HKz'.out.2 x (List.mem_of_getElem? hx)
                      have HX := Lib.hid hx
                      go_upto_region 21 with fail
                      have ok : Old wr (wr.alloc (.cells #[.string x.term, .string x.sub, .int .i64 x.line] 40)) := (Old.refl wr).alloc _
                      have p0 := later (show (wr.alloc (.cells #[.string x.term, .string x.sub, .int .i64 x.line] 40)).cell? ⟨wr.heap.size, 0, none⟩ = some (.string x.term) by simp [go_sem])
                      have p1 := later (show (wr.alloc (.cells #[.string x.term, .string x.sub, .int .i64 x.line] 40)).cell? ⟨wr.heap.size, 1, none⟩ = some (.string x.sub) by simp [go_sem])
                      have oK := ho.trans ok
                      generalize wr.alloc (.cells #[.string x.term, .string x.sub, .int .i64 x.line] 40) = wC at *
                      generalize wr.heap.size = gk at *
                      clear d0 d1 d2 hx ok ho
                      have e0 := fun V (o : Old wC V) => E0.out V (oK.trans o)
                      have e1 := fun V (o : Old wC V) => E1.out V (oK.trans o)
                      have HF1 := Lib.hid (fun (V : OldW wC) => RFold_any x.term V.w' hxs.1)
                      have HF2 := Lib.hid (fun (V : OldW wC) => RFold_any x.sub V.w' hxs.2)
                      have HF3 := Lib.hid (fun (V : OldW wC) => RFold_any e.term V.w' Hes.out.1)
                      have HF4 := Lib.hid (fun (V : OldW wC) => RFold_any e.sub V.w' Hes.out.2)
                      by_cases hh : foldS x.term = foldS e.term ∧ foldS x.sub = foldS e.sub
                      · have hb1 : ((foldS x.term).toList == (foldS e.term).toList) = true := by rw [str_beq]; simpa using hh.1
                        have hb2 : ((foldS x.sub).toList == (foldS e.sub).toList) = true := by rw [str_beq]; simpa using hh.2
                        have hin : ((tn : Nat) : Int) ∈ e.topics := HE.out.2 ⟨x, List.mem_of_getElem? HX.out, hh.1, hh.2⟩
                        have Hs2 : Hid (hasN l tn (q + 1) = hasN l tn q + 1) := Lib.hid (by rw [Hsuc.out, if_pos hin])
                        have HH := Lib.hid (fun V (o : Old wA V) => holds_any _ e.topics ((tn : Nat) : Int) V (HI.out.old (HoA.out.trans o)))
                        rw [show (e.topics.any fun x => decide (x = ((tn : Nat) : Int))) = true from List.any_eq_true.2 ⟨_, hin, by simp⟩] at HH
                        clear hh hin
                        refine wp_region_old (Old.refl wC) (by kernel_rfl) (by kernel_rfl) ?_
                        repeat (go_big_quiet_step (first | with_reducible exact Calls.in_old (HF1.out _) | with_reducible exact Calls.in_old (HF2.out _) | with_reducible exact Calls.in_old (HF3.out _) | with_reducible exact Calls.in_old (HF4.out _) | fail))
                        refine wpQuiet_nil ?_
                        rintro ⟨wq, hqq⟩
                        dsimp only
                        have oQ := oK.trans hqq
                        have e2 := fun V (o : Old wq V) => E2.out V (oQ.trans o)
                        clear HF1 HF2 HF3 HF4 e0 e1 p0 p1
                        go_wp2_with (go_at_call 13; (with_reducible refine (HH.out _ oQ).mono ?_); rintro z w8 ⟨rfl, o8⟩)
                        have oZ := oQ.trans o8
                        go_roundw
                        case rel => exact ⟨q + 1, by go_num, by omega, by rw [Hs2.out]; go_num, oZ⟩
                        case measure => simp [intOf]; omega
                      · have Hn : Hid (∀ (i' : Nat) (y : Kq), i' < m + 1 → t.keys[i']? = some y → ¬ (foldS y.term = foldS e.term ∧ foldS y.sub = foldS e.sub)) := Lib.hid fun i' y h hy => by
                          rcases Nat.lt_or_ge i' m with c | c
                          · exact Hno.out i' y c hy
                          · obtain rfl : i' = m := by omega
                            obtain rfl := Option.some.inj (HX.out.symm.trans hy)
                            exact hh
                        by_cases hh1 : foldS x.term = foldS e.term
                        · have hb1 : ((foldS x.term).toList == (foldS e.term).toList) = true := by rw [str_beq]; simpa using hh1
                          have hb2 : ((foldS x.sub).toList == (foldS e.sub).toList) = false := by rw [str_beq]; simpa using fun h => hh ⟨hh1, h⟩
                          clear hh hh1
                          refine wp_region_old (Old.refl wC) (by kernel_rfl) (by kernel_rfl) ?_
                          repeat (go_big_quiet_step (first | with_reducible exact Calls.in_old (HF1.out _) | with_reducible exact Calls.in_old (HF2.out _) | with_reducible exact Calls.in_old (HF3.out _) | with_reducible exact Calls.in_old (HF4.out _) | fail))
                          refine wpQuiet_nil ?_
                          rintro ⟨wq, hqq⟩
                          dsimp only
                          have oQ := oK.trans hqq
                          clear HF1 HF2 HF3 HF4 e0 e1 p0 p1
                          go_wp2_with fail
                          go_roundw
                          case rel => exact ⟨m + 1, by go_num, by omega, rfl, Hn.out, oQ⟩
                          case measure => simp [intOf]; omega
                        · have hb1 : ((foldS x.term).toList == (foldS e.term).toList) = false := by rw [str_beq]; simpa using hh1
                          clear hh hh1
                          refine wp_region_old (Old.refl wC) (by kernel_rfl) (by kernel_rfl) ?_
                          repeat (go_big_quiet_step (first | with_reducible exact Calls.in_old (HF1.out _) | with_reducible exact Calls.in_old (HF2.out _) | with_reducible exact Calls.in_old (HF3.out _) | with_reducible exact Calls.in_old (HF4.out _) | fail))
                          refine wpQuiet_nil ?_
                          rintro ⟨wq, hqq⟩
                          dsimp only
                          have oQ := oK.trans hqq
                          clear HF1 HF2 HF3 HF4 e0 e1 p0 p1
                          go_wp2_with fail
                          go_roundw
                          case rel => exact ⟨m + 1, by go_num, by omega, rfl, Hn.out, oQ⟩
                          case measure => simp [intOf]; omega
                    · obtain rfl : m = t.keys.length := by omega
                      have hm1 : ¬ (t.keys.length : Int) < t.keys.length := by omega
                      have Hs2 : Hid (hasN l tn (q + 1) = hasN l tn q) := Lib.hid (by
                        rw [Hsuc.out, if_neg, Nat.add_zero]
                        intro hin
                        obtain ⟨x, hx, h1, h2⟩ := HE.out.1 hin
                        obtain ⟨j, hj⟩ := List.getElem?_of_mem hx
                        exact Hno.out j x (List.getElem?_eq_some_iff.1 hj).1 hj ⟨h1, h2⟩)
                      go_wp2_with fail
                      go_roundw
                      case rel => exact ⟨q + 1, by go_num, by omega, by rw [Hs2.out], ho⟩
                      case measure => simp [intOf]; omega
                · obtain rfl : q = l.length := by omega
                  have hq1 : ¬ (l.length : Int) < l.length := by omega
                  have k4 : ∀ V, Old wr V → V.cell? ⟨g, 4, none⟩ = some (.slice a4 t.keys.length c4') := fun V o => HC4.out V (ho.trans o)
                  go_wp2_with fail
                  go_loopw [93] (fun j wx => ∃ m : Nat, j = .int .i64 m ∧ m ≤ t.keys.length ∧ Old wA wx) (fun j _ => t.keys.length - (intOf j).toNat)
                  case atStart => exact ⟨0, rfl, Nat.zero_le _, ho⟩
                  case round =>
                    clear k4 ho
                    obtain ⟨m, rfl, hm, ho⟩ := hrel
                    by_cases hlt4 : m < t.keys.length
                    · have hm1 : (m : Int) < t.keys.length := by omega
                      obtain ⟨x, hx⟩ : ∃ x, t.keys[m]? = some x := ⟨_, List.getElem?_eq_getElem hlt4⟩
                      obtain rfl := Ha4.out (by omega)
                      have d0 : ∀ V, Old wr V → V.cell? ⟨b4, o4 + m * 3, none⟩ = some (.string x.term) := fun V o => (H4.out m x hx V (O13.out.trans (HoA.out.trans (ho.trans o)))).1
                      have d1 : ∀ V, Old wr V → V.cell? ⟨b4, o4 + m * 3 + 1, none⟩ = some (.string x.sub) := fun V o => (H4.out m x hx V (O13.out.trans (HoA.out.trans (ho.trans o)))).2.1
                      have d2 : ∀ V, Old wr V → V.cell? ⟨b4, o4 + m * 3 + 2, none⟩ = some (.int .i64 x.line) := fun V o => (H4.out m x hx V (O13.out.trans (HoA.out.trans (ho.trans o)))).2.2
                      have hxs := HKz'.out.2 x (List.mem_of_getElem? hx)
                      have HK1 := Lib.hid (HKey.out x (List.mem_of_getElem? hx))
                      clear hx
                      go_upto_region 30 with fail
                      have ok : Old wr (wr.alloc (.cells #[.string x.term, .string x.sub, .int .i64 x.line] 40)) := (Old.refl wr).alloc _
                      have p0 := later (show (wr.alloc (.cells #[.string x.term, .string x.sub, .int .i64 x.line] 40)).cell? ⟨wr.heap.size, 0, none⟩ = some (.string x.term) by simp [go_sem])
                      have oK := ho.trans ok
                      generalize wr.alloc (.cells #[.string x.term, .string x.sub, .int .i64 x.line] 40) = wC at *
                      generalize wr.heap.size = gk at *
                      clear d0 d1 d2 ok ho
                      have HT1 := Lib.hid (HTo.out x.term hxs.1 wC (HoA.out.trans oK))
                      go_wp2_with (first
                        | (go_at_call 14; (with_reducible refine HT1.out.mono ?_); rintro z w7 ⟨⟨u7, r7, rfl, hr7, hw7⟩, o7⟩; have HH := Lib.hid (holds_any u7 r7 ((tn : Nat) : Int) w7 hw7.ints); rw [show (r7.any fun x => decide (x = ((tn : Nat) : Int))) = true from List.any_eq_true.2 ⟨_, (hr7.2 _).2 HK1.out, by simp⟩] at HH; clear hr7 hw7)
                        | (go_at_call 13; (with_reducible refine HH.out.mono ?_); rintro z w8 ⟨rfl, o8⟩))
                      have oZ := oK.trans (o7.trans o8)
                      go_roundw
                      case rel => exact ⟨m + 1, by go_num, by omega, oZ⟩
                      case measure => simp [intOf]; omega
                    · obtain rfl : m = t.keys.length := by omega
                      have hm1 : ¬ (t.keys.length : Int) < t.keys.length := by omega
                      have oZ := HoA.out.trans ho
                      go_wp2_with fail
                      go_roundw
                      case rel => exact ⟨k + 1, by go_num, by omega, by rw [show totK S i + (k + 1) = tn + 1 by omega]; go_num, by rw [Hst.out]; go_num, oZ⟩
                      case measure => simp [intOf]; omega
            · obtain rfl : k = T.length := by omega
              have hk1 : ¬ (T.length : Int) < T.length := by omega
              go_wp2_with fail
              go_roundw
              case rel => exact ⟨i + 1, by go_num, by omega, by rw [Htn1.out], by rw [Htn1.out], ho⟩
              case measure => simp [intOf]; omega
        · obtain rfl : i = S.length := by omega
          have hi1 : ¬ (S.length : Int) < S.length := by omega
          rw [Hend.out]
          have hbL := (Hbd.out 0 l.length).2.2
          have how := Lib.hid ho
          go_wp2_with fail
          go_loopw [6, 111] (fun y j wx => ∃ (q : Nat) (z : Int), j = .int .i64 q ∧ q ≤ l.length ∧ y = .int .i64 z ∧ z = (lenN l l.length : Int) - (lenN l q : Int) ∧ Old w3 wx) (fun _ j _ => l.length - (intOf j).toNat)
          case atStart => exact ⟨0, _, rfl, Nat.zero_le _, rfl, by show _ = (lenN l l.length : Int) - ((0 : Nat) : Int); omega, ho⟩
          case round =>
            clear ho
            obtain ⟨q, z, rfl, hq, rfl, hz, ho⟩ := hrel
            have hbq := (Hbd.out 0 q).2.2
            by_cases hlt3 : q < l.length
            · have hq1 : (q : Int) < l.length := by omega
              obtain ⟨e, he⟩ : ∃ e, l[q]? = some e := ⟨_, List.getElem?_eq_getElem hlt3⟩
              obtain rfl := Hea.out (by omega)
              obtain ⟨x2, y2, x3, y3, hcs, _, _⟩ := Heat.out q e he
              have e2 : ∀ V, Old wr V → V.cell? ⟨eb, eoff + q * 4 + 2, none⟩ = some (.slice x2 e.topics.length y2) := fun V o => (hcs V (ho.trans o)).2.2.1
              have hsuc := lenN_succ he
              have hbq2 := (Hbd.out 0 (q + 1)).2.2
              have hel : e.topics.length ≤ 1000000 := by omega
              have hw : IntKind.i64.wrap (z - (e.topics.length : Int)) = z - e.topics.length := IntWalk.i64_in _ (by omega)
              have Hz2 : Hid (z - (e.topics.length : Int) = (lenN l l.length : Int) - (lenN l (q + 1) : Int)) := Lib.hid (by omega)
              have hzb : -1000000 ≤ z ∧ z ≤ 1000000 := by omega
              clear hcs he hsuc hz
              go_wp2_with fail
              go_roundw
              case rel => exact ⟨q + 1, z - (e.topics.length : Int), by go_num, by omega, by first | rfl | rw [hw], Hz2.out, ho⟩
              case measure => simp [intOf]; omega
            · obtain rfl : q = l.length := by omega
              have hq1 : ¬ (l.length : Int) < l.length := by omega
              have hz0 : z = 0 := by omega
              clear hz
              subst hz0
              go_wp2_with (go_at_call 15; (with_reducible refine (HCk.out _ ho).mono ?_); rintro e' w5 ⟨hR5, o5⟩; obtain rfl := retC_zero hR5 Hz.out)
              go_ret
              exact ⟨rfl, O13.out.trans (ho.trans o5)⟩
  · have hfd : (decide (totN S S.length ≤ 300) && decide (S.length ≤ 200)) = false := by
      rw [← Bool.not_eq_true]
      intro h
      rw [Bool.and_eq_true, decide_eq_true_eq, decide_eq_true_eq] at h
      exact hfw h
    rw [hfd] at HN
    clear hfd hfw hv hT hB hS
    go_enter Tryz.func3, Tryz.ntmps3
    go_wp2_with (first
      | (go_at_call 9; refine HA.out.mono ?_; rintro e w1 ⟨rfl, o1⟩)
      | (go_at_call 10; refine (HN.out _ o1).mono ?_; rintro e w2 ⟨rfl, o2⟩; have o12 := o1.trans o2))
    go_ret
    exact ⟨rfl, o12⟩
end Go.Proofs.YtohngjkedhpikaaGreatDoor
