/-
  NamesFinds: any table: what is in it, in order; what is found by any text, by its beginning, nearly: the walk.
-/
import Derived.Test.YtpifkinlaicliaaGreatDoorZGoes
import Derived.Test.YtpifkinlaicliaaGreatDoorZRTabE
import Derived.Test.YtpifkinlaicliaaGreatDoorZRTabN
import Derived.Test.YtpifkinlaicliaaGreatDoorZRInts
import Derived.Test.YtpifkinlaicliaaGreatDoorZNamesNormsWalk
namespace Go.Proofs.YtpifkinlaicliaaGreatDoor
open Go.RowKit Go.Maps
attribute [local go_sem] Old.refl Old.alloc Old.drew Old.setCell OldW.old

theorem named_nil0 : Named [] := ⟨Nat.zero_le _, by simp, by simp⟩
theorem newL_named (l : List ByteArray) : Named (newL l) := by
  unfold newL
  split
  · rename_i h; exact named_of h
  · exact named_nil0
/-- New, as NamesFinds uses it: the handle stays what it is while blocks below the call's beginning are written -/
theorem New_keeps (l : List ByteArray) (v : Value) (w : World) (hv : Txts w v l) (hT : Tabs w) :
    Calls Tryz.prog 6 #[v] w fun e w' => (∃ p, e = .returned (.tuple #[.pointer p, .int .i64 (newR l).1, .int .i64 (newR l).2]) ∧ (p = none ↔ ¬ (newR l).2 = 0) ∧
      Hid (∀ W row, w'.grownBy W row → (∀ k, row = some k → k < w.heap.size) → Hdl W p (newL l))) ∧ Old w w' :=
  (New_any l v w hv hT).mono fun e w' ⟨⟨p, he, hp⟩, o⟩ => by
    rcases hp with ⟨h0, c, b, n, u0, u1, rfl, ht⟩ | ⟨h', rfl⟩
    · refine ⟨⟨_, he, by simp [h0], Lib.hid fun W row hg hr => ?_⟩, o⟩
      rw [show newL l = l from if_pos h0]
      exact .inr ⟨c, rfl, (ht.kept hg hr).tab⟩
    · refine ⟨⟨_, he, by simp [h'], Lib.hid fun W row hg hr => ?_⟩, o⟩
      rw [show newL l = [] from if_neg h']
      exact .inl ⟨rfl, rfl⟩
set_option linter.unusedSimpArgs false in
set_option maxRecDepth 100000 in
set_option maxHeartbeats 3200000 in
theorem namesFinds_row_walk (W : World) (hT : Tabs W) (l : List ByteArray) (v : Value) (hv : Txts W v l) (hz : l.length * 16 ≤ 140737488355328) (yl : l.length ≤ 1048576) (_yl' : ∀ i, (l.getD i ⟨#[]⟩).size ≤ 1048576)
    (q : List ByteArray) (vq : Value) (hq : Txts W vq q) (_hzq : q.length * 16 ≤ 140737488355328) (yq : q.length ≤ 1048576) (yq' : ∀ i, (q.getD i ⟨#[]⟩).size ≤ 1048576) (at' : Int) (hat : -9223372036854775808 ≤ at' ∧ at' ≤ 9223372036854775807) :
    Calls Tryz.prog 3 #[v, vq, .int .i64 at'] W fun e w' => e = .returned (.bool true) ∧ Old W w' := by
  have Ha := Lib.hid (awake_any W hT)
  have HT := Lib.hid hT
  have Hv := Lib.hid hv
  have Hq := Lib.hid hq
  have Yq := Lib.hid yq'
  obtain ⟨a, cap, rfl, hc1, hc2⟩ := hv.form
  obtain ⟨aq, capq, rfl, hq1, hq2⟩ := hq.form
  have HN := Lib.hid (fun v2 w2 (h : Txts w2 v2 l) (o : Old W w2) => New_keeps l v2 w2 h (HT.out.old o))
  have HR : Hid (∀ w2, Old W w2 → Calls Tryz.prog 7 #[.slice a l.length cap] w2 fun e w' => (∃ vr, e = .returned (.tuple #[vr, .int .i64 (newR l).1, .int .i64 (newR l).2]) ∧ ROwnT w2 w' vr (newL l)) ∧ Old w2 w') := Lib.hid (fun w2 o => RNew_any l (.slice a l.length cap) w2 (Hv.out.old o))
  have hNm := newL_named l
  have hLl : (newL l).length ≤ l.length := by unfold newL; split <;> simp
  have hL1 : (newL l).length ≤ 1000 := hNm.len
  have HL := Lib.hid (fun p V (h : Hdl V p (newL l)) => Len_any p (newL l) V h)
  have HNa := Lib.hid (fun p V (h : Hdl V p (newL l)) => Name_any p (newL l) at' V h hat.1 hat.2)
  have HS := Lib.hid (fun p V (o : Old W V) (h : Hdl V p (newL l)) => Sorted_any p (newL l) hNm V (HT.out.old o) h)
  have HF := Lib.hid (fun p s V (o : Old W V) (h : Hdl V p (newL l)) => Find_any p (newL l) s V (HT.out.old o) h)
  have HP := Lib.hid (fun p s (hs : s.size ≤ 1048576) V (o : Old W V) (h : Hdl V p (newL l)) => Prefix_any p (newL l) hNm s (by omega) V (HT.out.old o) h)
  have HE := Lib.hid (fun p s V (o : Old W V) (h : Hdl V p (newL l)) => Near_any p (newL l) hNm s V (HT.out.old o) h)
  have hnm64 : ∀ i, i < (newL l).length → (nmAt (newL l) i).size ≤ 4194304 := fun i hi => by have := (hNm.at hi).2.1; omega
  have KS := Lib.hid (fun u V (h : RTabV V u (newL l)) => RSorted_any u (newL l) V h (by omega) hnm64)
  have KF := Lib.hid (fun u s V (h : RTabV V u (newL l)) => RFind_any u (newL l) s V h)
  have KP := Lib.hid (fun u s (hs : s.size ≤ 1048576) V (h : RTabV V u (newL l)) => RPrefix_any u (newL l) s V h (by omega) hnm64 (by omega))
  have KE := Lib.hid (fun u s V (h : RTabV V u (newL l)) => RNear_any u (newL l) s V h (by omega) hnm64)
  have HG := Lib.hid (fun p u V (o : Old W V) (h : Hdl V p (newL l)) (k : RTabV V u (newL l)) => goes_any p u (newL l) hNm V (HT.out.old o) h k)
  have Herr := newR_err l
  clear hT hv hq yq' hNm hnm64
  generalize hLd : newL l = L at *
  clear hLd
  generalize hne : newR l = nr at *
  clear hne
  obtain ⟨n1, n2⟩ := nr
  dsimp only at *
  go_enter Tryz.func3, Tryz.ntmps3
  go_upto_region 6 with (first
    | (go_at_call 5; refine Ha.out.mono ?_; rintro e w1 ⟨rfl, o1⟩)
    | (at_builtin; go_loud (refine wpList_append_recs (c := txE) (w0 := w1) rfl _ _ 22 rfl 9 Tryz.underlying22 _ infoTx rfl (Nat.zero_lt_succ 0) _ [] l rfl (OwnS.nil _ _ _ _) _ rfl (Hv.out.old o1).recs (by simp; omega) (by simp; omega) (Old.refl w1) ?_); intro v2 w2 hown2 ho2 hg2; rw [List.nil_append] at hown2; obtain ⟨a2, c2, rfl, hd1, hd2⟩ := ownsRow_form hown2)
    | (go_at_call 6; refine (HN.out _ _ (Txts.of_recs hown2.recs) (o1.trans ho2)).mono ?_; rintro e w3 ⟨⟨p, rfl, hpn, hHd⟩, o3⟩; have O3 := (o1.trans ho2).trans o3)
    | (go_at_call 7; refine (HR.out _ O3).mono ?_; rintro e w4 ⟨⟨vr, rfl, hro⟩, o4⟩; obtain ⟨r0, r1, hrv, hs0, hs1⟩ := id hro; obtain ⟨b0, cb0, rfl, hb1, hb2⟩ := hs0.form; obtain ⟨b1, cb1, rfl, hb3, hb4⟩ := hs1.form; subst hrv))
  rw [show (L.map nrm).length = L.length from List.length_map ..] at hb3 hro
  have o45 : Old w4 (w4.alloc (.cells #[.slice b0 L.length cb0, .slice b1 L.length cb1] 29)) := (Old.refl _).alloc _
  have t0 := later (show (w4.alloc (.cells #[.slice b0 L.length cb0, .slice b1 L.length cb1] 29)).cell? ⟨w4.heap.size, 0, none⟩ = some (.slice b0 L.length cb0) by simp [go_sem])
  have t1 := later (show (w4.alloc (.cells #[.slice b0 L.length cb0, .slice b1 L.length cb1] 29)).cell? ⟨w4.heap.size, 1, none⟩ = some (.slice b1 L.length cb1) by simp [go_sem])
  have hs5 : (w4.alloc (.cells #[.slice b0 L.length cb0, .slice b1 L.length cb1] 29)).heap.size = w4.heap.size + 1 := by simp
  have HR5 := Lib.hid (hro.kept (Old.grownBy o45 none) (fun k e => by cases e))
  have HD5 := Lib.hid (fun Y row (hg : (w4.alloc (.cells #[.slice b0 L.length cb0, .slice b1 L.length cb1] 29)).grownBy Y row) hr => hHd.out Y row (grownBy_tr (Old.grownBy (o4.trans o45) row) hg) hr)
  have HM5 : Hid (OwnS txE 9 w1 (w4.alloc (.cells #[.slice b0 L.length cb0, .slice b1 L.length cb1] 29)) (.slice a2 l.length c2) l) := Lib.hid (((OwnS.old hown2 o3).old o4).old o45)
  have O5 := (O3.trans o4).trans o45
  have HRw := Lib.hid (fun j (e : (Value.slice a2 l.length c2).ownBlock = some j) => World.ownsRow.lt hown2 j e)
  have hs23 := o3.size
  have hs34 := o4.size
  have hs01 := o1.size
  clear hro hHd hown2 hs0 hs1 hg2 ho2 o4 o45 HN HR Ha
  generalize w4.alloc (.cells #[.slice b0 L.length cb0, .slice b1 L.length cb1] 29) = w5 at *
  generalize hbt : w4.heap.size = bt at *
  have hpn' := Lib.hid hpn
  clear hpn
  go_cut [53] from 39 to 53 (fun b wx => b = .bool false ∧ w5 = wx)
  case' first =>
    by_cases h : n2 = 0
    · have hne : p ≠ none := fun e => hpn'.out.1 e h
      have hn2 : (n2 != 0) = false := by rw [h]; rfl
      cases p with
      | none => exact absurd rfl hne
      | some x =>
        go_wp2_with fail
        go_meet
        exact ⟨rfl, rfl⟩
    · obtain rfl := hpn'.out.2 h
      have hn2 : (n2 != 0) = true := by simpa using h
      go_wp2_with fail
      go_meet
      exact ⟨rfl, rfl⟩
  obtain ⟨rfl, rfl⟩ := hcut
  go_wp2_with fail
  go_loopw [56] (fun kv wr => ∃ (k : Nat) (M : List ByteArray), k ≤ l.length ∧ kv = .int .i64 k ∧ M.length = l.length ∧ OwnS txE 9 w1 wr (.slice a2 l.length c2) M ∧ w5.grownBy wr (Value.slice a2 l.length c2).ownBlock) (fun kv _ => l.length - (intOf kv).toNat)
  case atStart => exact ⟨0, l, Nat.zero_le _, rfl, rfl, HM5.out, Old.grownBy (Old.refl _) _⟩
  case round =>
    obtain ⟨k, M, hk, rfl, hM, hS, hg⟩ := hrel
    by_cases hlt : k < l.length
    · have hi1 : (k : Int) < l.length := by omega
      obtain ⟨g, rfl, hg1, hg2⟩ := hS.block (by omega)
      obtain ⟨x, hx⟩ : ∃ x, M[k]? = some x := ⟨_, List.getElem?_eq_getElem (by omega)⟩
      have ck := OwnS.cell (c := txE) hS (i := k) (j := 0) hx rfl
      have S2 := Lib.hid (OwnS.stored (c := txE) hS (i := k) (j := 0) (x' := ⟨#[63]⟩) (u := .string ⟨#[63]⟩) hx (by decide) rfl)
      have fk := hS.frozen k
      rw [show k * txE.k + 0 = k from Nat.mul_one k] at ck S2
      have G2 := Lib.hid (grownBy_tr hg (show wr.grownBy _ (Value.slice (some ⟨g, 0, none⟩) l.length c2).ownBlock from grown_set wr g k (.string ⟨#[63]⟩)))
      have HMl := Lib.hid hM
      clear hM hS hg hx
      go_wp2_with fail
      go_roundw
      case rel => exact ⟨k + 1, M.set k ⟨#[63]⟩, by omega, by go_num, by rw [List.length_set]; exact HMl.out, S2.out, G2.out⟩
      case measure => simp [intOf]; omega
    · obtain rfl : k = l.length := by omega
      have hi1 : ¬ (l.length : Int) < l.length := by omega
      have hw5 := hg.size
      have O6 : Old W wr := O5.grown hg (fun j e => by have := HRw.out j e; omega)
      have HD6 := Lib.hid (HD5.out wr _ hg (fun j e => (HRw.out j e).2))
      have HR6 := Lib.hid (HR5.out.kept hg (fun j e => by have := HRw.out j e; omega)).tab
      have hbk := hg.block bt (by omega) (fun e => by have := HRw.out bt e.symm; omega)
      have t60 := later ((World.cell?_of_block (a := ⟨bt, 0, none⟩) hbk).trans (t0 w5 (Old.refl _)))
      have t61 := later ((World.cell?_of_block (a := ⟨bt, 1, none⟩) hbk).trans (t1 w5 (Old.refl _)))
      have HNm := Lib.hid (fun V (o : Old wr V) => HNa.out p V (HD6.out.old o))
      clear hS hg hM HD5 HR5 HM5 HRw hbk t0 t1 HNa
      go_upto_region 14 with (go_at_call 8; refine (HNm.out _ (Old.refl _)).mono ?_; rintro e w7 ⟨rfl, o7⟩)
      have Hnr : Hid (nameR L at' = ((nameR L at').1, (nameR L at').2)) := Lib.hid rfl
      generalize (nameR L at').1 = nm at *
      generalize (nameR L at').2 = ne at *
      go_cut [109] from 69 to 109 (fun b wx => b = .bool false ∧ w7 = wx)
      case' first =>
        by_cases h0 : 0 ≤ at'
        · by_cases h1 : at' < L.length
          · have hkL : at'.toNat < L.length := by omega
            have hnR : nameR L at' = (nmAt L at'.toNat, 0) := if_pos ⟨h0, h1⟩
            have hp := Hnr.out
            rw [hnR] at hp
            obtain ⟨hp1, hp2⟩ := Prod.mk.inj hp
            obtain ⟨x0, x1, e0, hx0, _⟩ := HR6.out
            obtain ⟨e1, e2⟩ : Value.slice b0 L.length cb0 = x0 ∧ Value.slice b1 L.length cb1 = x1 := by simpa using e0
            rw [← e1] at hx0
            obtain ⟨bM, offM, capM, eM, _, _, hNx⟩ := hx0.at' hkL
            have kN := hNx w7 o7
            have t70 := t60 w7 o7
            rw [eM] at t70
            rw [hp1] at kN
            have hss : (nm.toList != nm.toList) = false := by simp
            have hne : (ne != 0) = false := by rw [← hp2]; rfl
            have hk0 : ¬ at' < 0 := by omega
            have hk2 : ¬ (L.length : Int) ≤ at' := by omega
            have hix : ∀ V, (Instr.indexAt 22 (.slice (some ⟨bM, offM, none⟩) L.length capM) (.int .i64 at')).run Tryz.prog V = .ok (.pointer (some ⟨bM, offM + at'.toNat, none⟩)) V := fun V => by
              rw [run_indexAt_slice (h := by kernel_rfl), if_pos ⟨h0, h1⟩, show Tryz.prog.elem 22 = 9 from by kernel_rfl, Tryz.sizeOf9]
              simp [Result.andThen, Addr.add_lit]
            clear hNx eM e0 hnR hx0 e1 e2 hp hp1 hp2 Hnr t60 t61
            go_wp2_with fail
            go_meet
            exact ⟨rfl, rfl⟩
          · have hnR : nameR L at' = (noS, 1) := if_neg (by omega)
            have hp := Hnr.out
            rw [hnR] at hp
            obtain ⟨hp1, hp2⟩ := Prod.mk.inj hp
            have t70 := t60 w7 o7
            have h2 : (L.length : Int) ≤ at' := by omega
            have h3 : ¬ at' < 0 := by omega
            have hss : nm.toList = [] := by rw [← hp1]; simp
            have hne : (ne != 1) = false := by rw [← hp2]; rfl
            clear hnR hp hp1 hp2 Hnr
            go_wp2_with fail
            go_meet
            exact ⟨rfl, rfl⟩
        · have hnR : nameR L at' = (noS, 1) := if_neg (by omega)
          have hp := Hnr.out
          rw [hnR] at hp
          obtain ⟨hp1, hp2⟩ := Prod.mk.inj hp
          have t70 := t60 w7 o7
          have h2 : at' < 0 := by omega
          have hss : nm.toList = [] := by rw [← hp1]; simp
          have hne : (ne != 1) = false := by rw [← hp2]; rfl
          clear hnR hp hp1 hp2 Hnr
          go_wp2_with fail
          go_meet
          exact ⟨rfl, rfl⟩
      obtain ⟨rfl, rfl⟩ := hcut
      go_upto_region 16 with fail
      have O7 : Old W w7 := O6.trans o7
      have HD7 := Lib.hid (HD6.out.old o7)
      have HR7 := Lib.hid (HR6.out.old o7)
      have t70 := fun V (o : Old w7 V) => t60 V (o7.trans o)
      have t71 := fun V (o : Old w7 V) => t61 V (o7.trans o)
      have HL7 := Lib.hid (fun V (o : Old w7 V) => HL.out p V (HD7.out.old o))
      have HS7 := Lib.hid (fun V (o : Old w7 V) => HS.out p V (O7.trans o) (HD7.out.old o))
      have KS7 := Lib.hid (fun V (o : Old w7 V) => KS.out (.agg #[.slice b0 L.length cb0, .slice b1 L.length cb1]) V (HR7.out.old o))
      have HF7 := Lib.hid (fun s V (o : Old w7 V) => HF.out p s V (O7.trans o) (HD7.out.old o))
      have HP7 := Lib.hid (fun s hs V (o : Old w7 V) => HP.out p s hs V (O7.trans o) (HD7.out.old o))
      have HE7 := Lib.hid (fun s V (o : Old w7 V) => HE.out p s V (O7.trans o) (HD7.out.old o))
      have KF7 := Lib.hid (fun s V (o : Old w7 V) => KF.out (.agg #[.slice b0 L.length cb0, .slice b1 L.length cb1]) s V (HR7.out.old o))
      have KP7 := Lib.hid (fun s hs V (o : Old w7 V) => KP.out (.agg #[.slice b0 L.length cb0, .slice b1 L.length cb1]) s hs V (HR7.out.old o))
      have KE7 := Lib.hid (fun s V (o : Old w7 V) => KE.out (.agg #[.slice b0 L.length cb0, .slice b1 L.length cb1]) s V (HR7.out.old o))
      have HG7 := Lib.hid (fun V (o : Old w7 V) => HG.out p (.agg #[.slice b0 L.length cb0, .slice b1 L.length cb1]) V (O7.trans o) (HD7.out.old o) (HR7.out.old o))
      have HI := Lib.hid (fun V u u' a b c d M (h : OwnI 3 a b u M) (h' : OwnI 3 c d u' M) (o : Old b V) (o' : Old d V) => RInts_same u u' M V (h.ints.old o) (h'.ints.old o'))
      clear t60 t61 HD6 HR6 HL HS KS HF HP HE KF KP KE HG HNm O6 o7 Hnr
      have HO : Old w7 w7.drew := (Old.refl _).drew
      by_cases h20 : 20 < q.length
      · have h20i : (20 : Int) < q.length := by omega
        have d1 := decide_eq_true h20i
        have d2 := decide_eq_true h20
        refine wp_region_held_drew (S := (fun w' => w'.cell? ⟨bt, 0, none⟩ = some (.slice b0 L.length cb0) ∧ w'.cell? ⟨bt, 1, none⟩ = some (.slice b1 L.length cb1))) (by kernel_rfl) ⟨t70 _ HO, t71 _ HO⟩ (fun hHeld => ?_)
        refine wpAnyH_take (i := 0) (v := ?_) (by simp only [List.getElem?_toArray, List.getElem?_cons_succ, List.getElem?_cons_zero]; rfl) (by kernel_rfl) (by kernel_rfl) (by kernel_rfl) (by intro _ _ _ h; exact h) (Or.inl ⟨by rfl, ?_⟩) (by assumption) ?_
        rotate_left
        · intro w' hSw; (try dsimp only at hSw); go_simp; try with_reducible rfl
        try simp only [Act.put, List.setIfInBounds_toArray, List.set_cons_zero, List.set_cons_succ]
        refine wpAnyH_take (i := 2) (v := ?_) (by simp only [List.getElem?_toArray, List.getElem?_cons_succ, List.getElem?_cons_zero]; rfl) (by kernel_rfl) (by kernel_rfl) (by kernel_rfl) (by intro _ _ _ h; exact h) (Or.inl ⟨by rfl, ?_⟩) (by assumption) ?_
        rotate_left
        · intro w' hSw; (try dsimp only at hSw); go_simp; try with_reducible rfl
        try simp only [Act.put, List.setIfInBounds_toArray, List.set_cons_zero, List.set_cons_succ]
        refine wpAnyH_take (i := 3) (v := ?_) (by simp only [List.getElem?_toArray, List.getElem?_cons_succ, List.getElem?_cons_zero]; rfl) (by kernel_rfl) (by kernel_rfl) (by kernel_rfl) (by intro _ _ _ h; exact h) (Or.inl ⟨by rfl, ?_⟩) (by assumption) ?_
        rotate_left
        · intro w' hSw; (try dsimp only at hSw); go_simp; try with_reducible rfl
        try simp only [Act.put, List.setIfInBounds_toArray, List.set_cons_zero, List.set_cons_succ]
        refine wpAnyH_take (i := 4) (v := ?_) (by simp only [List.getElem?_toArray, List.getElem?_cons_succ, List.getElem?_cons_zero]; rfl) (by kernel_rfl) (by kernel_rfl) (by kernel_rfl) (by intro _ _ _ h; exact h) (Or.inl ⟨by rfl, ?_⟩) (by assumption) ?_
        rotate_left
        · intro w' hSw; (try dsimp only at hSw); go_simp; try with_reducible rfl
        try simp only [Act.put, List.setIfInBounds_toArray, List.set_cons_zero, List.set_cons_succ]
        refine wpAnyH_ready (rs := [1]) (by kernel_rfl) (by simp) ?_
        refine AllReadyH.cons (by simp only [List.getElem?_toArray, List.getElem?_cons_succ, List.getElem?_cons_zero]; rfl) (fun K hK => ?_) AllReadyH.nil
        go_simp
        (go_at_call 9; (with_reducible refine (HL7.out _ HO).mono ?_); rintro e w8 ⟨rfl, o8⟩; replace HO := HO.trans o8)
        (try go_wp2_with fail)
        refine hK.out _ _ ⟨t70 _ HO, t71 _ HO⟩ (fun hHeld => ?_)
        clear hK K
        try simp only [Act.put, List.setIfInBounds_toArray, List.set_cons_zero, List.set_cons_succ]
        refine wpAnyH_take (i := 5) (v := ?_) (by simp only [List.getElem?_toArray, List.getElem?_cons_succ, List.getElem?_cons_zero]; rfl) (by kernel_rfl) (by kernel_rfl) (by kernel_rfl) (by intro _ _ _ h; exact h) (Or.inl ⟨by rfl, ?_⟩) (by assumption) ?_
        rotate_left
        · intro w' hSw; (try dsimp only at hSw); go_simp; try with_reducible rfl
        try simp only [Act.put, List.setIfInBounds_toArray, List.set_cons_zero, List.set_cons_succ]
        refine wpAnyH_take (i := 6) (v := ?_) (by simp only [List.getElem?_toArray, List.getElem?_cons_succ, List.getElem?_cons_zero]; rfl) (by kernel_rfl) (by kernel_rfl) (by kernel_rfl) (by intro _ _ _ h; exact h) (Or.inl ⟨by rfl, ?_⟩) (by assumption) ?_
        rotate_left
        · intro w' hSw; (try dsimp only at hSw); go_simp; try with_reducible rfl
        try simp only [Act.put, List.setIfInBounds_toArray, List.set_cons_zero, List.set_cons_succ]
        refine wpAnyH_take (i := 7) (v := ?_) (by simp only [List.getElem?_toArray, List.getElem?_cons_succ, List.getElem?_cons_zero]; rfl) (by kernel_rfl) (by kernel_rfl) (by kernel_rfl) (by intro _ _ _ h; exact h) (Or.inl ⟨by rfl, ?_⟩) (by assumption) ?_
        rotate_left
        · intro w' hSw; (try dsimp only at hSw); go_simp; try with_reducible rfl
        try simp only [Act.put, List.setIfInBounds_toArray, List.set_cons_zero, List.set_cons_succ]
        refine wpAnyH_take (i := 9) (v := ?_) (by simp only [List.getElem?_toArray, List.getElem?_cons_succ, List.getElem?_cons_zero]; rfl) (by kernel_rfl) (by kernel_rfl) (by kernel_rfl) (by intro _ _ _ h; exact h) (Or.inl ⟨by rfl, ?_⟩) (by assumption) ?_
        rotate_left
        · intro w' hSw; (try dsimp only at hSw); go_simp; try with_reducible rfl
        try simp only [Act.put, List.setIfInBounds_toArray, List.set_cons_zero, List.set_cons_succ]
        refine wpAnyH_ready (rs := [8]) (by kernel_rfl) (by simp) ?_
        refine AllReadyH.cons (by simp only [List.getElem?_toArray, List.getElem?_cons_succ, List.getElem?_cons_zero]; rfl) (fun K hK => ?_) AllReadyH.nil
        go_simp
        (go_at_call 11; (with_reducible refine (HS7.out _ HO).mono ?_); rintro e w9 ⟨⟨y9, rfl, hy9⟩, o9⟩; replace HO := HO.trans o9)
        (try go_wp2_with fail)
        refine hK.out _ _ ⟨t70 _ HO, t71 _ HO⟩ (fun hHeld => ?_)
        clear hK K
        try simp only [Act.put, List.setIfInBounds_toArray, List.set_cons_zero, List.set_cons_succ]
        refine wpAnyH_ready (rs := [10]) (by kernel_rfl) (by simp) ?_
        refine AllReadyH.cons (by simp only [List.getElem?_toArray, List.getElem?_cons_succ, List.getElem?_cons_zero]; rfl) (fun K hK => ?_) AllReadyH.nil
        go_simp
        (go_at_call 12; (with_reducible refine (KS7.out _ HO).mono ?_); rintro e w10 ⟨⟨y10, rfl, hy10⟩, o10⟩; replace HO := HO.trans o10)
        (try go_wp2_with fail)
        refine hK.out _ _ ⟨t70 _ HO, t71 _ HO⟩ (fun hHeld => ?_)
        clear hK K
        try simp only [Act.put, List.setIfInBounds_toArray, List.set_cons_zero, List.set_cons_succ]
        refine wpAnyH_ready (rs := [11]) (by kernel_rfl) (by simp) ?_
        refine AllReadyH.cons (by simp only [List.getElem?_toArray, List.getElem?_cons_succ, List.getElem?_cons_zero]; rfl) (fun K hK => ?_) AllReadyH.nil
        go_simp
        (go_at_call 10; (with_reducible refine (HI.out _ _ _ _ _ _ _ _ hy9 hy10 (by first | exact Old.refl _ | exact o10) (by first | exact Old.refl _ | exact o9)).mono ?_); rintro e w11 ⟨rfl, o11⟩; replace HO := HO.trans o11)
        (try go_wp2_with fail)
        refine hK.out _ _ ⟨t70 _ HO, t71 _ HO⟩ (fun hHeld => ?_)
        clear hK K
        try simp only [Act.put, List.setIfInBounds_toArray, List.set_cons_zero, List.set_cons_succ]
        refine wpAnyH_take (i := 12) (v := ?_) (by simp only [List.getElem?_toArray, List.getElem?_cons_succ, List.getElem?_cons_zero]; rfl) (by kernel_rfl) (by kernel_rfl) (by kernel_rfl) (by intro _ _ _ h; exact h) (Or.inl ⟨by rfl, ?_⟩) (by assumption) ?_
        rotate_left
        · intro w' hSw; (try dsimp only at hSw); go_simp; try with_reducible rfl
        try simp only [Act.put, List.setIfInBounds_toArray, List.set_cons_zero, List.set_cons_succ]
        refine wpAnyH_take (i := 13) (v := ?_) (by simp only [List.getElem?_toArray, List.getElem?_cons_succ, List.getElem?_cons_zero]; rfl) (by kernel_rfl) (by kernel_rfl) (by kernel_rfl) (by intro _ _ _ h; exact h) (Or.inl ⟨by rfl, ?_⟩) (by assumption) ?_
        rotate_left
        · intro w' hSw; (try dsimp only at hSw); go_simp; try with_reducible rfl
        try simp only [Act.put, List.setIfInBounds_toArray, List.set_cons_zero, List.set_cons_succ]
        refine wpAnyH_take (i := 14) (v := ?_) (by simp only [List.getElem?_toArray, List.getElem?_cons_succ, List.getElem?_cons_zero]; rfl) (by kernel_rfl) (by kernel_rfl) (by kernel_rfl) (by intro _ _ _ h; exact h) (Or.inl ⟨by rfl, ?_⟩) (by assumption) ?_
        rotate_left
        · intro w' hSw; (try dsimp only at hSw); go_simp; try with_reducible rfl
        try simp only [Act.put, List.setIfInBounds_toArray, List.set_cons_zero, List.set_cons_succ]
        refine wpAnyH_take (i := 15) (v := ?_) (by simp only [List.getElem?_toArray, List.getElem?_cons_succ, List.getElem?_cons_zero]; rfl) (by kernel_rfl) (by kernel_rfl) (by kernel_rfl) (by intro _ _ _ h; exact h) (Or.inl ⟨by rfl, ?_⟩) (by assumption) ?_
        rotate_left
        · intro w' hSw; (try dsimp only at hSw); go_simp; try with_reducible rfl
        try simp only [Act.put, List.setIfInBounds_toArray, List.set_cons_zero, List.set_cons_succ]
        refine wpAnyH_take (i := 16) (v := ?_) (by simp only [List.getElem?_toArray, List.getElem?_cons_succ, List.getElem?_cons_zero]; rfl) (by kernel_rfl) (by kernel_rfl) (by kernel_rfl) (by intro _ _ _ h; exact h) (Or.inl ⟨by rfl, ?_⟩) (by assumption) ?_
        rotate_left
        · intro w' hSw; (try dsimp only at hSw); go_simp; try with_reducible rfl
        try simp only [Act.put, List.setIfInBounds_toArray, List.set_cons_zero, List.set_cons_succ]
        refine wpAnyH_take (i := 17) (v := ?_) (by simp only [List.getElem?_toArray, List.getElem?_cons_succ, List.getElem?_cons_zero]; rfl) (by kernel_rfl) (by kernel_rfl) (by kernel_rfl) (by intro _ _ _ h; exact h) (Or.inl ⟨by rfl, ?_⟩) (by assumption) ?_
        rotate_left
        · intro w' hSw; (try dsimp only at hSw); go_simp; try with_reducible rfl
        try simp only [Act.put, List.setIfInBounds_toArray, List.set_cons_zero, List.set_cons_succ]
        refine wpAnyH_take (i := 18) (v := ?_) (by simp only [List.getElem?_toArray, List.getElem?_cons_succ, List.getElem?_cons_zero]; rfl) (by kernel_rfl) (by kernel_rfl) (by kernel_rfl) (by intro _ _ _ h; exact h) (Or.inl ⟨by rfl, ?_⟩) (by assumption) ?_
        rotate_left
        · intro w' hSw; (try dsimp only at hSw); go_simp; try with_reducible rfl
        try simp only [Act.put, List.setIfInBounds_toArray, List.set_cons_zero, List.set_cons_succ]
        refine wpAnyH_take (i := 19) (v := ?_) (by simp only [List.getElem?_toArray, List.getElem?_cons_succ, List.getElem?_cons_zero]; rfl) (by kernel_rfl) (by kernel_rfl) (by kernel_rfl) (by intro _ _ _ h; exact h) (Or.inl ⟨by rfl, ?_⟩) (by assumption) ?_
        rotate_left
        · intro w' hSw; (try dsimp only at hSw); go_simp; try with_reducible rfl
        try simp only [Act.put, List.setIfInBounds_toArray, List.set_cons_zero, List.set_cons_succ]
        refine wpAnyH_take (i := 20) (v := undef) (by simp only [List.getElem?_toArray, List.getElem?_cons_succ, List.getElem?_cons_zero]; rfl) (by kernel_rfl) (by kernel_rfl) (by kernel_rfl) (by intro _ _ _ h; exact h) (Or.inr ⟨by rfl, rfl⟩) (by assumption) ?_
        try simp only [Act.put, List.setIfInBounds_toArray, List.set_cons_zero, List.set_cons_succ]
        refine wpAnyH_take (i := 21) (v := undef) (by simp only [List.getElem?_toArray, List.getElem?_cons_succ, List.getElem?_cons_zero]; rfl) (by kernel_rfl) (by kernel_rfl) (by kernel_rfl) (by intro _ _ _ h; exact h) (Or.inr ⟨by rfl, rfl⟩) (by assumption) ?_
        try simp only [Act.put, List.setIfInBounds_toArray, List.set_cons_zero, List.set_cons_succ]
        refine wpAnyH_take (i := 22) (v := undef) (by simp only [List.getElem?_toArray, List.getElem?_cons_succ, List.getElem?_cons_zero]; rfl) (by kernel_rfl) (by kernel_rfl) (by kernel_rfl) (by intro _ _ _ h; exact h) (Or.inr ⟨by rfl, rfl⟩) (by assumption) ?_
        try simp only [Act.put, List.setIfInBounds_toArray, List.set_cons_zero, List.set_cons_succ]
        refine wpAnyH_take (i := 23) (v := ?_) (by simp only [List.getElem?_toArray, List.getElem?_cons_succ, List.getElem?_cons_zero]; rfl) (by kernel_rfl) (by kernel_rfl) (by kernel_rfl) (by intro _ _ _ h; exact h) (Or.inl ⟨by rfl, ?_⟩) (by assumption) ?_
        rotate_left
        · intro w' hSw; (try dsimp only at hSw); go_simp; try with_reducible rfl
        try simp only [Act.put, List.setIfInBounds_toArray, List.set_cons_zero, List.set_cons_succ]
        refine wpAnyH_done (by kernel_rfl) ?_ _
        have t8 := fun V (o : Old w11 V) => t70 V (HO.trans o)
        have HLb := Lib.hid (fun V (o : Old w11 V) => HL7.out V (HO.trans o))
        have HOb := Lib.hid (O7.trans HO)
        clear t70 t71 HL7 HS7 KS7 HF7 HP7 HE7 KF7 KP7 KE7 HG7 HI HO
        go_upto_region 17 with fail
        refine wp_region_old (Old.refl w11) (by kernel_rfl) (by kernel_rfl) ?_
        repeat (go_big_quiet_step (with_reducible exact Calls.in_old (HLb.out _ (OldW.old _))))
        refine wpQuiet_nil ?_
        rintro ⟨wq, hq⟩
        dsimp only
        go_wp2_with fail
        go_ret
        exact ⟨rfl, HOb.out.trans hq⟩
      · have h20i : ¬ (20 : Int) < q.length := by omega
        have d1 := decide_eq_false h20i
        have d2 := decide_eq_false h20
        by_cases h100 : 100 < l.length
        · have h100i : (100 : Int) < l.length := by omega
          have d3 := decide_eq_true h100i
          have d4 := decide_eq_true h100
          go_region_held3 (fun w' => w'.cell? ⟨bt, 0, none⟩ = some (.slice b0 L.length cb0) ∧ w'.cell? ⟨bt, 1, none⟩ = some (.slice b1 L.length cb1)) (first | exact ⟨t70 _ HO, t71 _ HO⟩ | go_keep) (first
            | (go_at_call 9; (with_reducible refine (HL7.out _ HO).mono ?_); rintro e w8 ⟨rfl, o8⟩; replace HO := HO.trans o8)
            | (go_at_call 11; (with_reducible refine (HS7.out _ HO).mono ?_); rintro e w9 ⟨⟨y9, rfl, hy9⟩, o9⟩; replace HO := HO.trans o9)
            | (go_at_call 12; (with_reducible refine (KS7.out _ HO).mono ?_); rintro e w10 ⟨⟨y10, rfl, hy10⟩, o10⟩; replace HO := HO.trans o10)
            | (go_at_call 10; (with_reducible refine (HI.out _ _ _ _ _ _ _ _ hy9 hy10 (by first | exact Old.refl _ | exact o10) (by first | exact Old.refl _ | exact o9)).mono ?_); rintro e w11 ⟨rfl, o11⟩; replace HO := HO.trans o11))
          have t8 := fun V (o : Old w11 V) => t70 V (HO.trans o)
          have HLb := Lib.hid (fun V (o : Old w11 V) => HL7.out V (HO.trans o))
          have HOb := Lib.hid (O7.trans HO)
          clear t70 t71 HL7 HS7 KS7 HF7 HP7 HE7 KF7 KP7 KE7 HG7 HI HO
          go_upto_region 17 with fail
          refine wp_region_old (Old.refl w11) (by kernel_rfl) (by kernel_rfl) ?_
          repeat (go_big_quiet_step (with_reducible exact Calls.in_old (HLb.out _ (OldW.old _))))
          refine wpQuiet_nil ?_
          rintro ⟨wq, hq⟩
          dsimp only
          go_wp2_with fail
          go_ret
          exact ⟨rfl, HOb.out.trans hq⟩
        · have h100i : ¬ (100 : Int) < l.length := by omega
          have d3 := decide_eq_false h100i
          have d4 := decide_eq_false h100
          go_region_held3 (fun w' => w'.cell? ⟨bt, 0, none⟩ = some (.slice b0 L.length cb0) ∧ w'.cell? ⟨bt, 1, none⟩ = some (.slice b1 L.length cb1)) (first | exact ⟨t70 _ HO, t71 _ HO⟩ | go_keep) (first
            | (go_at_call 9; (with_reducible refine (HL7.out _ HO).mono ?_); rintro e w8 ⟨rfl, o8⟩; replace HO := HO.trans o8)
            | (go_at_call 11; (with_reducible refine (HS7.out _ HO).mono ?_); rintro e w9 ⟨⟨y9, rfl, hy9⟩, o9⟩; replace HO := HO.trans o9)
            | (go_at_call 12; (with_reducible refine (KS7.out _ HO).mono ?_); rintro e w10 ⟨⟨y10, rfl, hy10⟩, o10⟩; replace HO := HO.trans o10)
            | (go_at_call 10; (with_reducible refine (HI.out _ _ _ _ _ _ _ _ hy9 hy10 (by first | exact Old.refl _ | exact o10) (by first | exact Old.refl _ | exact o9)).mono ?_); rintro e w11 ⟨rfl, o11⟩; replace HO := HO.trans o11))
          have hw11 := HO
          clear HO HS7 KS7 HL7 o8 o9 o10 o11 hy9 hy10 d1 d2 d3 d4
          go_wp2_with fail
          go_loopw [142] (fun kv wr => ∃ k : Nat, k ≤ q.length ∧ kv = .int .i64 k ∧ Old w11 wr) (fun kv _ => q.length - (intOf kv).toNat)
          case atStart => exact ⟨0, Nat.zero_le _, rfl, Old.refl _⟩
          case round =>
            obtain ⟨k, hk, rfl, ho⟩ := hrel
            have HO := hw11.trans ho
            by_cases hlt : k < q.length
            · have hi1 : (k : Int) < q.length := by omega
              obtain ⟨bQ, offQ, capQ, eQ, _, _, hNq⟩ := Hq.out.at' hlt
              obtain ⟨rfl, hxQ, rfl⟩ := Value.slice.inj eQ
              have kq := hNq wr (O7.trans HO)
              have hsz : (nmAt q k).size ≤ 1048576 := Yq.out k
              have HF8 := Lib.hid (fun V (o : Old w7 V) => HF7.out (nmAt q k) V o)
              have KF8 := Lib.hid (fun V (o : Old w7 V) => KF7.out (nmAt q k) V o)
              have HP8 := Lib.hid (fun V (o : Old w7 V) => HP7.out (nmAt q k) hsz V o)
              have KP8 := Lib.hid (fun V (o : Old w7 V) => KP7.out (nmAt q k) hsz V o)
              have HE8 := Lib.hid (fun V (o : Old w7 V) => HE7.out (nmAt q k) V o)
              have KE8 := Lib.hid (fun V (o : Old w7 V) => KE7.out (nmAt q k) V o)
              clear hNq eQ hxQ HF7 KF7 HP7 KP7 HE7 KE7 HG7
              generalize findR L (nmAt q k) = z at *
              generalize optN z = zi at *
              generalize z.isSome = zb at *
              generalize nmAt q k = s at *
              have hzi : (zi != zi) = false := by simp
              have hzb : (zb != zb) = false := by simp
              have tr0 := t70 wr HO
              have tr1 := t71 wr HO
              go_upto_region 23 with (first
                | (go_at_call 13; (with_reducible refine (HF8.out _ HO).mono ?_); rintro e w12 ⟨rfl, o12⟩; replace HO := HO.trans o12; have tq0 := t70 _ HO; have tq1 := t71 _ HO)
                | (go_at_call 14; (with_reducible refine (KF8.out _ HO).mono ?_); rintro e w13 ⟨rfl, o13⟩; replace HO := HO.trans o13))
              have HB : Old w11 w13 := (ho.trans o12).trans o13
              have HB := HB.drew
              replace HO := HO.drew
              go_region_held3 (fun w' => w'.cell? ⟨bt, 0, none⟩ = some (.slice b0 L.length cb0) ∧ w'.cell? ⟨bt, 1, none⟩ = some (.slice b1 L.length cb1)) (first | exact ⟨t70 _ HO, t71 _ HO⟩ | go_keep) (first
                | (go_at_call 15; (with_reducible refine (HP8.out _ HO).mono ?_); rintro e w14 ⟨⟨y14, rfl, hy14⟩, o14⟩; replace HO := HO.trans o14; replace HB := HB.trans o14)
                | (go_at_call 16; (with_reducible refine (KP8.out _ HO).mono ?_); rintro e w15 ⟨⟨y15, rfl, hy15⟩, o15⟩; replace HO := HO.trans o15; replace HB := HB.trans o15)
                | (go_at_call 17; (with_reducible refine (HE8.out _ HO).mono ?_); rintro e w16 ⟨⟨y16, rfl, hy16⟩, o16⟩; replace HO := HO.trans o16; replace HB := HB.trans o16)
                | (go_at_call 18; (with_reducible refine (KE8.out _ HO).mono ?_); rintro e w17 ⟨⟨y17, rfl, hy17⟩, o17⟩; replace HO := HO.trans o17; replace HB := HB.trans o17)
                | (go_at_call 10; (with_reducible refine (HI.out _ _ _ _ _ _ _ _ hy14 hy15 (by first | exact Old.refl _ | exact o15) (by first | exact Old.refl _ | exact o14)).mono ?_); rintro e w18 ⟨rfl, o18⟩; replace HO := HO.trans o18; replace HB := HB.trans o18; clear hy14 hy15)
                | (go_at_call 10; (with_reducible refine (HI.out _ _ _ _ _ _ _ _ hy16 hy17 (by first | exact Old.refl _ | exact o17) (by first | exact Old.refl _ | exact o16)).mono ?_); rintro e w19 ⟨rfl, o19⟩; replace HO := HO.trans o19; replace HB := HB.trans o19))
              have HBx := Lib.hid HB
              clear HB
              go_wp2_with fail
              go_roundw
              case rel => exact ⟨k + 1, by omega, by go_num, HBx.out⟩
              case measure => simp [intOf]; omega
            · obtain rfl : k = q.length := by omega
              have hi1 : ¬ (q.length : Int) < q.length := by omega
              have tr0 := t70 wr HO
              have tr1 := t71 wr HO
              go_wp2_with (go_at_call 19; refine (HG7.out _ HO).mono ?_; rintro e w20 ⟨rfl, o20⟩)
              go_ret
              exact ⟨rfl, (O7.trans HO).trans o20⟩
end Go.Proofs.YtpifkinlaicliaaGreatDoor
