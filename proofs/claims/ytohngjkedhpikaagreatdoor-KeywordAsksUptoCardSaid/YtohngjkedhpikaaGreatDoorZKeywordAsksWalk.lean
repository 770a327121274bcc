/-
  KeywordAsks: any entries: whether they may be an index; what is found in them: the walk.
-/
import Derived.Test.YtohngjkedhpikaaGreatDoorZKwTw
import Derived.Test.YtohngjkedhpikaaGreatDoorZKwHs
import Derived.Test.YtohngjkedhpikaaGreatDoorZKwOe
import Derived.Test.YtohngjkedhpikaaGreatDoorZKwRc
import Derived.Test.YtohngjkedhpikaaGreatDoorZKwRf
import Derived.Test.YtohngjkedhpikaaGreatDoorZKwCk
import Derived.Test.YtohngjkedhpikaaGreatDoorZLaid
namespace Go.Proofs.YtohngjkedhpikaaGreatDoor
open Go.RowKit Go.Maps
attribute [local go_sem] Old.refl Old.alloc Old.drew Old.setCell OldW.old

/-- how many parts the first entries have, as the statement counts them -/
def cntA (l : List En) : Nat → Nat
  | 0 => 0
  | i + 1 => cntA l i + ((l[i]?.map fun e => 1 + e.sees.length + e.topics.length / 8).getD 0)
theorem cntA_succ {l : List En} {i : Nat} {e : En} (h : l[i]? = some e) : cntA l (i + 1) = cntA l i + (1 + e.sees.length + e.topics.length / 8) := by rw [cntA, h]; rfl
theorem cntA_le {l : List En} {B : Nat} (h : ∀ e ∈ l, e.sees.length ≤ B ∧ e.topics.length ≤ B) (i : Nat) : cntA l i ≤ i * (1 + 2 * B) := by
  induction i with
  | zero => simp [cntA]
  | succ i ih =>
    rw [cntA, Nat.add_mul, Nat.one_mul]
    refine Nat.add_le_add ih ?_
    cases he : l[i]? with
    | none => simp
    | some e =>
      have := h e (List.mem_of_getElem? he)
      simp only [Option.map_some, Option.getD_some]
      omega
theorem cntA_has {l : List En} (i : Nat) (hi : i ≤ l.length) : i ≤ cntA l i ∧ ((l.take i).flatMap En.sees).length ≤ cntA l i ∧ ((l.take i).flatMap En.topics).length ≤ 8 * cntA l i := by
  induction i with
  | zero => simp
  | succ i ih =>
    obtain ⟨h1, h2, h3⟩ := ih (by omega)
    obtain ⟨e, he⟩ : ∃ e, l[i]? = some e := ⟨_, List.getElem?_eq_getElem (by omega)⟩
    rw [cntA_succ he, List.take_add_one, he, List.flatMap_append, List.flatMap_append, List.length_append, List.length_append]
    simp only [Option.toList_some, List.flatMap_cons, List.flatMap_nil, List.append_nil]
    omega
theorem retC_same {l : List En} {t : Int} {e e' : Ending} (h : RetC l t e) (k : RetC9 l t e') : ∃ a c : Int, e = .returned (.tuple #[.int .i64 a, .int .i64 c]) ∧ e' = .returned (.tuple #[.int .i64 a, .int .i64 c]) := by
  obtain ⟨a, c, rfl, h1⟩ := h
  obtain ⟨a', c', rfl, h2⟩ := k
  obtain ⟨rfl, rfl⟩ := h1.unique h2
  exact ⟨_, _, rfl, rfl⟩
set_option maxRecDepth 100000 in
set_option maxHeartbeats 6400000 in
theorem keywordAsks_row_walk (W : World) (hT : Tabs W) (l : List En) (v : Value) (hv : Ents W v l) (hl : l.length ≤ 1048576) (hB : ∀ e ∈ l, EnB e 1048576) (topics : Int) (_htp : -9223372036854775808 ≤ topics ∧ topics ≤ 9223372036854775807) (ts : List ByteArray) (tv : Value) (ht : Txts W tv ts) (hts : ∀ x ∈ ts, x.size ≤ 1048576) :
    Calls Tryz.prog 7 #[v, .int .i64 topics, tv] W fun e w' => e = .returned (.bool true) ∧ Old W w' := by
  obtain ⟨sa, scap, rfl, hsc1, hsc2⟩ := Seqs.form hv
  obtain ⟨ta, tcap, rfl, htc1, htc2⟩ := ht.form
  have HA := Lib.hid (awake_any W hT)
  obtain ⟨b, off, hea, heat⟩ := Ents.open hv
  have Hea := Lib.hid hea
  have Heat := Lib.hid heat
  have HV := Lib.hid hv
  have HT := Lib.hid hT
  have HTs := Lib.hid ht
  have Hts := Lib.hid hts
  have HB := Lib.hid hB
  have Hcb : Hid (∀ i, i ≤ l.length → cntA l i ≤ 1048576 * (1 + 2 * 1048576)) := Lib.hid fun i hi => Nat.le_trans (cntA_le (fun e he => ⟨(hB e he).sl, (hB e he).tl⟩) i) (Nat.mul_le_mul_right _ (by omega))
  have Hcs := Lib.hid (fun (i : Nat) (e : En) (h : l[i]? = some e) => cntA_succ h)
  have Hch := Lib.hid (cntA_has (l := l) l.length (Nat.le_refl _))
  clear hv hea heat hT ht hts hB
  go_enter Tryz.func7, Tryz.ntmps7
  go_upto_region 5 with (go_at_call 9; refine HA.out.mono ?_; rintro e w1 ⟨rfl, o1⟩)
  have O1 := Lib.hid o1
  clear HA o1
  go_loopw [7, 21] (fun nv jv wx => ∃ i : Nat, jv = .int .i64 i ∧ i ≤ l.length ∧ nv = .int .i64 (cntA l i : Nat) ∧ Old W wx) (fun _ jv _ => l.length - (intOf jv).toNat)
  case atStart => exact ⟨0, rfl, Nat.zero_le _, rfl, O1.out⟩
  case round =>
    clear O1
    obtain ⟨i, rfl, hi, rfl, ho⟩ := hrel
    have hcb := Hcb.out i hi
    by_cases hlt : i < l.length
    · have hi1 : (i : Int) < l.length := by omega
      obtain ⟨e, he⟩ : ∃ e, l[i]? = some e := ⟨_, List.getElem?_eq_getElem hlt⟩
      obtain ⟨x2, y2, x3, y3, hcs, _, _⟩ := Heat.out i e he
      obtain rfl := Hea.out (by omega)
      have hb := HB.out e (List.mem_of_getElem? he)
      have hb1 := hb.sl
      have hb2 := hb.tl
      have hsuc := Hcs.out i e he
      have hcb2 := Hcb.out (i + 1) hlt
      have c0 : ∀ V, Old wr V → V.cell? ⟨b, off + i * 4, none⟩ = some (.string e.term) := fun V o => (hcs V (ho.trans o)).1
      have c1 : ∀ V, Old wr V → V.cell? ⟨b, off + i * 4 + 1, none⟩ = some (.string e.sub) := fun V o => (hcs V (ho.trans o)).2.1
      have c2' : ∀ V, Old wr V → V.cell? ⟨b, off + i * 4 + 2, none⟩ = some (.slice x2 e.topics.length y2) := fun V o => (hcs V (ho.trans o)).2.2.1
      have c3' : ∀ V, Old wr V → V.cell? ⟨b, off + i * 4 + 3, none⟩ = some (.slice x3 e.sees.length y3) := fun V o => (hcs V (ho.trans o)).2.2.2
      clear hcs he hb
      go_upto_region 7 with fail
      have oa : Old wr (wr.alloc (.cells #[.string e.term, .string e.sub, .slice x2 e.topics.length y2, .slice x3 e.sees.length y3] 45)) := (Old.refl wr).alloc _
      have d2 := later (show (wr.alloc (.cells #[.string e.term, .string e.sub, .slice x2 e.topics.length y2, .slice x3 e.sees.length y3] 45)).cell? ⟨wr.heap.size, 2, none⟩ = some (.slice x2 e.topics.length y2) by simp [go_sem])
      have d3 := later (show (wr.alloc (.cells #[.string e.term, .string e.sub, .slice x2 e.topics.length y2, .slice x3 e.sees.length y3] 45)).cell? ⟨wr.heap.size, 3, none⟩ = some (.slice x3 e.sees.length y3) by simp [go_sem])
      generalize wr.alloc (.cells #[.string e.term, .string e.sub, .slice x2 e.topics.length y2, .slice x3 e.sees.length y3] 45) = wA at *
      generalize wr.heap.size = g9 at *
      clear c0 c1 c2' c3'
      go_upto_region 8 with fail
      go_wp2_with fail
      go_roundw
      case rel => exact ⟨i + 1, by go_num, by omega, by rw [hsuc]; exact congrArg (Value.int .i64) (by omega), ho.trans oa⟩
      case measure => simp [intOf]; omega
    · obtain rfl : i = l.length := by omega
      have hi1 : ¬ (l.length : Int) < l.length := by omega
      by_cases hbig : 150 < cntA l l.length ∨ 20 < ts.length
      · by_cases h1 : 150 < cntA l l.length
        · have h1' : (150 : Int) < (cntA l l.length : Nat) := by omega
          go_wp2_with fail
          go_ret
          exact ⟨rfl, ho⟩
        · have h1' : ¬ (150 : Int) < (cntA l l.length : Nat) := by omega
          have h2' : (20 : Int) < ts.length := by omega
          go_wp2_with fail
          go_ret
          exact ⟨rfl, ho⟩
      · have h1' : ¬ (150 : Int) < (cntA l l.length : Nat) := by omega
        have h2' : ¬ (20 : Int) < ts.length := by omega
        obtain ⟨hc1, hc2, hc3⟩ := Hch.out
        rw [List.take_length] at hc2 hc3
        have hl150 : l.length ≤ 150 := by omega
        have hU : (l.flatMap En.sees).length ≤ 150 := by omega
        have hUt : (l.flatMap En.topics).length ≤ 1200 := by omega
        have Hsz : Hid (∀ e ∈ l, e.term.size ≤ 4194304 ∧ e.sub.size ≤ 4194304 ∧ (foldS e.term).size ≤ 4194304 ∧ (foldS e.sub).size ≤ 4194304 ∧ e.topics.length ≤ 1000000 ∧ e.sees.length ≤ 1000000 ∧ ∀ x ∈ e.sees, x.size ≤ 4194304 ∧ (foldS x).size ≤ 4194304) := Lib.hid fun e he => by
          have hb := HB.out e he
          have f1 := foldS_size e.term
          have f2 := foldS_size e.sub
          have b1 := hb.t
          have b2 := hb.s
          have h1 : e.topics.length ≤ (l.flatMap En.topics).length := by
            obtain ⟨l1, l2, rfl⟩ := List.append_of_mem he
            simp only [List.flatMap_append, List.flatMap_cons, List.length_append]
            omega
          have h2 := sees_flat he
          refine ⟨by omega, by omega, by omega, by omega, by omega, by omega, fun x hx => ?_⟩
          have b3 := hb.ss x hx
          have f3 := foldS_size x
          omega
        have HTw := Lib.hid (twin_any _ l wr (HV.out.old ho) (by omega) (fun e he => ⟨(Hsz.out e he).2.2.2.2.1, (Hsz.out e he).2.2.2.2.2.1⟩))
        have Ho := Lib.hid ho
        clear Hcb Hcs Hch Hea Heat ho hcb hbig hc1 hc2 hc3
        go_upto_region 12 with (go_at_call 24; (with_reducible refine HTw.out.mono ?_); rintro z w2 ⟨⟨um, rfl, hm⟩, o2⟩)
        obtain ⟨ma, mcap, rfl, hmc1, hmc2⟩ := Seqs.form hm
        have HM := Lib.hid hm
        have O2 := Lib.hid (Ho.out.trans o2)
        have HV2 := Lib.hid (HV.out.old O2.out)
        have HT2 := Lib.hid (HT.out.old O2.out)
        have HTs2 := Lib.hid (HTs.out.old O2.out)
        clear hm HTw HV HT HTs Ho o2
        have HC := Lib.hid (Check_any _ l topics w2 HM.out HT2.out (by omega) (fun e he => ⟨(Hsz.out e he).1, (Hsz.out e he).2.1, (Hsz.out e he).2.2.1, (Hsz.out e he).2.2.2.1, (Hsz.out e he).2.2.2.2.1, (Hsz.out e he).2.2.2.2.2.2⟩))
        have HRC := Lib.hid (fun V (o : Old w2 V) => RCheck_any _ l topics V (HV2.out.old o) (by omega) (by omega) (fun e he => ⟨(Hsz.out e he).1, (Hsz.out e he).2.1, (Hsz.out e he).2.2.1, (Hsz.out e he).2.2.2.1, (Hsz.out e he).2.2.2.2.2.2⟩))
        have HHd := Lib.hid (fun V (o : Old w2 V) => Headings_any _ l V (HM.out.old o) (HT2.out.old o) (by omega) (fun e he => ⟨(Hsz.out e he).1, (Hsz.out e he).2.2.1⟩))
        have HRHd := Lib.hid (fun V (o : Old w2 V) => RHeadings_any _ l V (HV2.out.old o) (by omega) (fun e he => ⟨(Hsz.out e he).1, (Hsz.out e he).2.2.1⟩))
        go_upto_region 14 with (first
          | (go_at_call 15; (with_reducible refine HC.out.mono ?_); rintro z w3 ⟨hR3, o3⟩; have HR3 := Lib.hid hR3; obtain ⟨ca, cc, rfl, hck⟩ := hR3; have HCk := Lib.hid hck; clear hck)
          | (go_at_call 25; (with_reducible refine (HRC.out _ o3).mono ?_); rintro z w4 ⟨⟨ra, rc, rfl, hrk⟩, o4⟩; obtain ⟨rfl, rfl⟩ := HCk.out.unique hrk; have o34 := o3.trans o4; clear hrk))
        clear HC HRC HCk HR3
        go_upto_region 17 with (first
          | (go_at_call 18; (with_reducible refine (HHd.out _ o34).mono ?_); rintro z w5 ⟨⟨u5, rfl, hH5⟩, o5⟩; have o35 := o34.trans o5)
          | (go_at_call 27; (with_reducible refine (HRHd.out _ o35).mono ?_); rintro z w6 ⟨⟨u6, rfl, hH6⟩, o6⟩; have o36 := o35.trans o6; have HHs := Lib.hid (headings_same u5 u6 _ w6 (hH5.recs.old o6) hH6.recs); clear hH5 hH6)
          | (go_at_call 26; (with_reducible refine HHs.out.mono ?_); rintro z w7 ⟨rfl, o7⟩; have o37 := o36.trans o7))
        have O7 := Lib.hid o37
        clear HHd HRHd HHs o3 o34 o35 o36 o37 o4 o5 o6 o7
        have Hz1 := Lib.hid (fun e he => (Hsz.out e he).1)
        have Hz3 := Lib.hid (fun e he => And.intro (Hsz.out e he).1 (And.intro (Hsz.out e he).2.2.1 (Hsz.out e he).2.2.2.2.2.2))
        have hU9 : (l.flatMap En.sees).length ≤ 900000 := by omega
        have hU1 : (l.flatMap En.sees).length ≤ 1000000 := by omega
        have hUt9 : (l.flatMap En.topics).length ≤ 900000 := by omega
        have hUt1 : (l.flatMap En.topics).length ≤ 1000000 := by omega
        have hl1 : l.length ≤ 1000000 := by omega
        have HFi := Lib.hid (fun t (h : t.size ≤ 4194304) V (o : Old w2 V) => Find_any _ l t V (HM.out.old o) (HT2.out.old o) hl1 Hz1.out h)
        have HRf0 := Lib.hid (fun t (h : t.size ≤ 4194304) V (o : Old w2 V) => (RFind_any _ l t false V (HV2.out.old o) hl1 Hz1.out h).mono fun e w' k => (show (∃ u, e = .returned u ∧ Ints w' u (findK l (foldS t))) ∧ Old V w' from ⟨by obtain ⟨⟨u, h1, h2⟩, _⟩ := k; rw [pickF_find] at h2; exact ⟨u, h1, h2.ints⟩, k.2⟩))
        have HUn := Lib.hid (fun t (h : t.size ≤ 4194304) V (o : Old w2 V) => Under_any _ l t V (HM.out.old o) (HT2.out.old o) hl1 Hz1.out h)
        have HRf1 := Lib.hid (fun t (h : t.size ≤ 4194304) V (o : Old w2 V) => (RFind_any _ l t true V (HV2.out.old o) hl1 Hz1.out h).mono fun e w' k => (show (∃ u, e = .returned u ∧ Ints w' u (underK l (foldS t))) ∧ Old V w' from ⟨by obtain ⟨⟨u, h1, h2⟩, _⟩ := k; rw [pickF_under] at h2; exact ⟨u, h1, h2.ints⟩, k.2⟩))
        have HTp := Lib.hid (fun t (h : t.size ≤ 4194304) V (o : Old w2 V) => Topics_any _ l t V (HM.out.old o) (HT2.out.old o) h hl1 hUt1 Hz1.out)
        have HRTp := Lib.hid (fun t (h : t.size ≤ 4194304) V (o : Old w2 V) => RTopics_any _ l t V (HV2.out.old o) h hUt9 Hz1.out)
        have HFo := Lib.hid (fun t (h : t.size ≤ 4194304) (h' : (foldS t).size ≤ 4194304) V (o : Old w2 V) => Follow_any _ l t V (HM.out.old o) (HT2.out.old o) h h' hl1 hU1 Hz3.out)
        have HRFo := Lib.hid (fun t (h : t.size ≤ 4194304) V (o : Old w2 V) => RFollow_any _ l t V (HV2.out.old o) hU9 h Hz3.out)
        have HSt := Lib.hid (fun t (h : t.size ≤ 4194304) V (o : Old w2 V) => Starting_any _ l t V (HM.out.old o) (HT2.out.old o) hl1 Hz1.out h)
        have HRSt := Lib.hid (fun t (h : t.size ≤ 4194304) V (o : Old w2 V) => RStarting_any _ l t V (HV2.out.old o) hl1 Hz1.out h)
        have HSm := Lib.hid (fun V (o : Old w2 V) => RSame_any _ _ l V (HM.out.old o) (HV2.out.old o))
        obtain ⟨tb, to', hta, htat⟩ := HTs2.out.at1
        have Hta := Lib.hid hta
        have Htat := Lib.hid htat
        clear Hz1 Hz3 hta htat hU9 hU1 hUt9 hUt1 hl1 hU hUt hl150 HTs2 HT2 HM HV2 Hsz
        go_loopw [76] (fun jv wx => ∃ i : Nat, jv = .int .i64 i ∧ i ≤ ts.length ∧ Old w2 wx) (fun jv _ => ts.length - (intOf jv).toNat)
        case atStart => exact ⟨0, rfl, Nat.zero_le _, O7.out⟩
        case round =>
          clear O7
          obtain ⟨i, rfl, hi, HO⟩ := hrel
          by_cases hlt : i < ts.length
          · have hi1 : (i : Int) < ts.length := by omega
            obtain ⟨t, ht⟩ : ∃ t, ts[i]? = some t := ⟨_, List.getElem?_eq_getElem hlt⟩
            obtain rfl := Hta.out (by omega)
            have ct := Htat.out i t ht wr HO
            have hts1 := Hts.out t (List.mem_of_getElem? ht)
            have hz : t.size ≤ 4194304 := by omega
            have hfz : (foldS t).size ≤ 4194304 := by have := foldS_size t; omega
            have HFi' := Lib.hid (HFi.out t hz)
            have HRf0' := Lib.hid (HRf0.out t hz)
            have HUn' := Lib.hid (HUn.out t hz)
            have HRf1' := Lib.hid (HRf1.out t hz)
            have HTp' := Lib.hid (HTp.out t hz)
            have HRTp' := Lib.hid (HRTp.out t hz)
            have HFo' := Lib.hid (HFo.out t hz hfz)
            have HRFo' := Lib.hid (HRFo.out t hz)
            have HSt' := Lib.hid (HSt.out t hz)
            have HRSt' := Lib.hid (HRSt.out t hz)
            clear ht hts1 hz hfz
            go_upto_region 21 with (first
              | (go_at_call 23; (with_reducible refine (HFi'.out _ HO).mono ?_); rintro z w5 ⟨⟨u5, rfl, hI5⟩, o5⟩; have HO5 := HO.trans o5)
              | (go_at_call 29; (with_reducible refine (HRf0'.out _ HO5).mono ?_); rintro z w6 ⟨⟨u6, rfl, hI6⟩, o6⟩; have HO6 := HO5.trans o6; have HC1 := Lib.hid (RInts9_same u5 u6 _ w6 (hI5.old o6) hI6); clear hI5 hI6)
              | (go_at_call 28; (with_reducible refine HC1.out.mono ?_); rintro z w7 ⟨rfl, o7⟩; have HO7 := HO6.trans o7)
              | (go_at_call 30; (with_reducible refine (HUn'.out _ HO7).mono ?_); rintro z w8 ⟨⟨u8, rfl, hI8⟩, o8⟩; have HO8 := HO7.trans o8)
              | (go_at_call 29; (with_reducible refine (HRf1'.out _ HO8).mono ?_); rintro z w9 ⟨⟨u9, rfl, hI9⟩, o9⟩; have HO9 := HO8.trans o9; have HC2 := Lib.hid (RInts9_same u8 u9 _ w9 (hI8.old o9) hI9); clear hI8 hI9)
              | (go_at_call 28; (with_reducible refine HC2.out.mono ?_); rintro z w10 ⟨rfl, o10⟩; have HO10 := HO9.trans o10)
              | (go_at_call 14; (with_reducible refine (HTp'.out _ HO10).mono ?_); rintro z w11 ⟨⟨u11, r11, rfl, hT11, hI11⟩, o11⟩; have HO11 := HO10.trans o11)
              | (go_at_call 31; (with_reducible refine (HRTp'.out _ HO11).mono ?_); rintro z w12 ⟨⟨u12, r12, rfl, hT12, hI12⟩, o12⟩; have HO12 := HO11.trans o12; have e12 := hT12.unique hT11; have HC3 := Lib.hid (RInts9_same u11 u12 r11 w12 (hI11.ints.old o12) (e12 ▸ hI12)); clear hT11 hI11 hT12 hI12 e12)
              | (go_at_call 28; (with_reducible refine HC3.out.mono ?_); rintro z w13 ⟨rfl, o13⟩; have HO13 := HO12.trans o13)
              | (go_at_call 20; (with_reducible refine (HFo'.out _ HO13).mono ?_); rintro z w14 ⟨⟨u14, r14, rfl, hF14, hI14⟩, o14⟩; have HO14 := HO13.trans o14)
              | (go_at_call 32; (with_reducible refine (HRFo'.out _ HO14).mono ?_); rintro z w15 ⟨⟨u15, r15, rfl, hF15, hI15⟩, o15⟩; have HO15 := HO14.trans o15; have e15 := hF15.unique hF14; have HC4 := Lib.hid (RTexts9_same u14 u15 r14 w15 ((Txts.of_recs hI14.recs).old o15) (e15 ▸ hI15)); clear hF14 hI14 hF15 hI15 e15)
              | (go_at_call 17; (with_reducible refine HC4.out.mono ?_); rintro z w16 ⟨rfl, o16⟩; have HO16 := HO15.trans o16)
              | (go_at_call 33; (with_reducible refine (HSt'.out _ HO16).mono ?_); rintro z w17 ⟨⟨u17, rfl, hI17⟩, o17⟩; have HO17 := HO16.trans o17)
              | (go_at_call 34; (with_reducible refine (HRSt'.out _ HO17).mono ?_); rintro z w18 ⟨⟨u18, rfl, hI18⟩, o18⟩; have HO18 := HO17.trans o18; have HC5 := Lib.hid (RInts9_same u17 u18 _ w18 (hI17.old o18) hI18); clear hI17 hI18)
              | (go_at_call 28; (with_reducible refine HC5.out.mono ?_); rintro z w19 ⟨rfl, o19⟩; have HO19 := HO18.trans o19))
            have HO' := HO19
            clear HC1 HC2 HC3 HC4 HC5 HFi' HRf0' HUn' HRf1' HTp' HRTp' HFo' HRFo' HSt' HRSt' HO5 HO6 HO7 HO8 HO9 HO10 HO11 HO12 HO13 HO14 HO15 HO16 HO17 HO18 HO19 o5 o6 o7 o8 o9 o10 o11 o12 o13 o14 o15 o16 o17 o18 o19 ct
            go_wp2_with fail
            go_roundw
            case rel => exact ⟨i + 1, by go_num, by omega, HO'⟩
            case measure => simp [intOf]; omega
          · obtain rfl : i = ts.length := by omega
            have hi1 : ¬ (ts.length : Int) < ts.length := by omega
            go_wp2_with (go_at_call 35; (with_reducible refine (HSm.out _ HO).mono ?_); rintro z w5 ⟨rfl, o5⟩)
            go_ret
            exact ⟨rfl, O2.out.trans (HO.trans o5)⟩
end Go.Proofs.YtohngjkedhpikaaGreatDoor
