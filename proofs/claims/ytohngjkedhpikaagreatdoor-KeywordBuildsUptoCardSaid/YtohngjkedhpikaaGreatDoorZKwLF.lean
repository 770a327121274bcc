/-
  KEYWORD, LF: Follow.
-/
import Derived.Test.YtohngjkedhpikaaGreatDoorZKwCp
import Derived.Test.YtohngjkedhpikaaGreatDoorZKwH
import Derived.Test.YtohngjkedhpikaaGreatDoorZKwR
namespace Go.Proofs.YtohngjkedhpikaaGreatDoor
open Go.RowKit Go.Maps
attribute [local go_sem] Old.refl Old.alloc Old.drew Old.setCell OldW.old

set_option maxRecDepth 100000 in
set_option maxHeartbeats 3200000 in
theorem Follow_any (v : Value) (l : List En) (s : ByteArray) (w : World) (hv : Ents w v l) (hT : Tabs w) (hs : s.size ≤ 4194304) (hfs : (foldS s).size ≤ 4194304) (hl : l.length ≤ 1000000) (hU : (l.flatMap En.sees).length ≤ 1000000)
    (hsz : ∀ e ∈ l, e.term.size ≤ 4194304 ∧ (foldS e.term).size ≤ 4194304 ∧ ∀ x ∈ e.sees, x.size ≤ 4194304 ∧ (foldS x).size ≤ 4194304) :
    Calls Tryz.prog 20 #[v, .string s] w fun e w' => (∃ u r, e = .returned u ∧ IsFollow (edgeL l) (foldS s) r ∧ OwnS txE 9 w w' u r) ∧ Old w w' := by
  obtain ⟨frm, hfr⟩ : ∃ f, foldS s = f := ⟨_, rfl⟩
  rw [hfr] at hfs ⊢
  have Hfr := Lib.hid hfr
  clear hfr
  obtain ⟨a, cap, rfl, hc1, hc2⟩ := Seqs.form hv
  obtain ⟨b, off, ha, hat⟩ := Ents.open hv
  have Ha := Lib.hid ha
  have Hat := Lib.hid hat
  have HT := Lib.hid hT
  have Hsz := Lib.hid hsz
  have Hs := Lib.hid (And.intro hs hfs)
  have hmm := @run_makeMap Tryz.prog
  clear hv ha hat hT hsz hs hfs
  go_enter Tryz.func20, Tryz.ntmps20
  go_upto_region 2 with fail
  obtain ⟨wb, hwb⟩ : ∃ x, w.heap.size = x := ⟨_, rfl⟩
  have hws : WS (w.alloc (.map #[] 0)) (w.alloc (.map #[] 0)) wb 0 (fun _ => .slice none 0 0) (wayE l 0) := (WS.made w hwb (by simp; omega)).cong (by funext t; rfl)
  have oA : Old w (w.alloc (.map #[] 0)) := (Old.refl w).alloc _
  have hlA : w.heap.size < (w.alloc (.map #[] 0)).heap.size := by simp
  rw [hwb]
  have HWS := Lib.hid hws
  have HoA := Lib.hid oA
  have HlA : Hid (wb = w.heap.size ∧ wb < (w.alloc (.map #[] 0)).heap.size) := Lib.hid ⟨hwb.symm, by omega⟩
  clear hws oA hwb hlA
  generalize w.alloc (.map #[] 0) = wA at *
  go_wp2_with fail
  go_loopw [20] (fun j wx => ∃ (k nW : Nat) (V : ByteArray → Value), j = .int .i64 k ∧ k ≤ l.length ∧ nW ≤ seesN l k ∧ WS wA wx wb nW V (wayE l k) ∧ Old w wx ∧ wA.heap.size ≤ wx.heap.size) (fun j _ => l.length - (intOf j).toNat)
  case atStart => exact ⟨0, 0, _, rfl, Nat.zero_le _, Nat.zero_le _, HWS.out, HoA.out, Nat.le_refl _⟩
  case round =>
    clear HWS HoA
    obtain ⟨k, nW, V, rfl, hk, hnW, hWS, ho, hsA⟩ := hrel
    have HWS := Lib.hid hWS
    have Ho := Lib.hid ho
    clear hWS
    by_cases hlt : k < l.length
    · have hi : (k : Int) < l.length := by omega
      obtain ⟨e, he⟩ : ∃ e, l[k]? = some e := ⟨_, List.getElem?_eq_getElem hlt⟩
      obtain ⟨a2, c2, a3, c3, hcs, _, hts⟩ := Hat.out k e he
      obtain rfl := Ha.out (by omega)
      have c0 : ∀ V, Old wr V → V.cell? ⟨b, off + k * 4, none⟩ = some (.string e.term) := fun V o => (hcs V (ho.trans o)).1
      have c1 : ∀ V, Old wr V → V.cell? ⟨b, off + k * 4 + 1, none⟩ = some (.string e.sub) := fun V o => (hcs V (ho.trans o)).2.1
      have c2' : ∀ V, Old wr V → V.cell? ⟨b, off + k * 4 + 2, none⟩ = some (.slice a2 e.topics.length c2) := fun V o => (hcs V (ho.trans o)).2.2.1
      have c3' : ∀ V, Old wr V → V.cell? ⟨b, off + k * 4 + 3, none⟩ = some (.slice a3 e.sees.length c3) := fun V o => (hcs V (ho.trans o)).2.2.2
      obtain ⟨hz1, hz2, hz3⟩ := Hsz.out e (List.mem_of_getElem? he)
      have hsee := seesN_succ he
      have hsl := seesN_le l (k + 1)
      have hlen := wayE_length l k (foldS e.term) hk
      have hWs := wayE_skip he
      have hWo := wayE_own he
      have HWs := Lib.hid hWs
      have HWo := Lib.hid hWo
      have Hz3 := Lib.hid hz3
      have Hts := Lib.hid hts
      have Hsee := Lib.hid hsee
      have hcn : e.sees.length ≤ 1000000 := by omega
      clear hcs hts he hWs hWo hz3
      go_upto_region 5 with fail
      have h9 := heap_alloc_new wr (.cells #[.string e.term, .string e.sub, .slice a2 e.topics.length c2, .slice a3 e.sees.length c3] 45)
      have HWA := Lib.hid (HWS.out.old ((Old.refl wr).alloc (.cells #[.string e.term, .string e.sub, .slice a2 e.topics.length c2, .slice a3 e.sees.length c3] 45)))
      have ho2 := ho.alloc (.cells #[.string e.term, .string e.sub, .slice a2 e.topics.length c2, .slice a3 e.sees.length c3] 45)
      have hsB : wA.heap.size ≤ (wr.alloc (.cells #[.string e.term, .string e.sub, .slice a2 e.topics.length c2, .slice a3 e.sees.length c3] 45)).heap.size := by simp; omega
      clear HWS ho c0 c1 c2' c3' Ho
      generalize wr.alloc (.cells #[.string e.term, .string e.sub, .slice a2 e.topics.length c2, .slice a3 e.sees.length c3] 45) = wB at *
      generalize wr.heap.size = g9 at *
      have d0 := later (show wB.cell? ⟨g9, 0, none⟩ = some (.string e.term) from cells_at (i := 0) h9 rfl)
      have d1 := later (show wB.cell? ⟨g9, 1, none⟩ = some (.string e.sub) from cells_at (i := 1) h9 rfl)
      have d3 := later (show wB.cell? ⟨g9, 3, none⟩ = some (.slice a3 e.sees.length c3) from cells_at (i := 3) h9 rfl)
      clear h9
      by_cases hsub : e.sub = noB
      · have hsb : e.sub = ⟨#[]⟩ := hsub
        rw [hsb] at d1
        have HF := Lib.hid (Fold_any e.term wB (HT.out.old ho2) hz1)
        have HWo' := Lib.hid (HWo.out hsub)
        have hkp := Lib.hid (keyK (s := foldS e.term) (by omega))
        clear hsub hsb HWo HWs
        go_wp2_with (go_at_call 51; refine HF.out.mono ?_; rintro e' w2 ⟨rfl, o2⟩)
        have HW2 := Lib.hid ((HWA.out.old o2).cong (show wayE l k = fun q => if q = foldS e.term then wayE l k (foldS e.term) ++ (e.sees.take 0).map foldS else wayE l k q from by
          funext q
          by_cases hq : q = foldS e.term
          · rw [if_pos hq, hq]; simp
          · rw [if_neg hq]))
        have ho3 := ho2.trans o2
        have hs2 := Nat.le_trans hsB o2.size
        clear HF d0 d1 d3 HWA ho2 hsB o2
        go_loopw [33] (fun j wx => ∃ (m n3 : Nat) (V : ByteArray → Value), j = .int .i64 m ∧ m ≤ e.sees.length ∧ n3 ≤ nW + m ∧ WS wA wx wb n3 V (fun q => if q = foldS e.term then wayE l k (foldS e.term) ++ (e.sees.take m).map foldS else wayE l k q) ∧ Old w wx ∧ wA.heap.size ≤ wx.heap.size) (fun j _ => e.sees.length - (intOf j).toNat)
        case atStart => exact ⟨0, nW, V, rfl, Nat.zero_le _, Nat.le_refl _, HW2.out, ho3, hs2⟩
        case round =>
          clear HW2 ho3 hs2
          obtain ⟨m, n3, V3, rfl, hm, hn3, hWS, ho, hsA⟩ := hrel
          by_cases hlt3 : m < e.sees.length
          · have hi3 : (m : Int) < e.sees.length := by omega
            obtain ⟨x, hx⟩ : ∃ x, e.sees[m]? = some x := ⟨_, List.getElem?_eq_getElem hlt3⟩
            obtain ⟨hx1, hx2⟩ := Hz3.out x (List.mem_of_getElem? hx)
            obtain ⟨bt, ot, hat3, htx⟩ := Hts.out.at1
            obtain rfl := hat3 (by omega)
            have ck : ∀ V, Old wr V → V.cell? ⟨bt, ot + m, none⟩ = some (.string x) := fun V o => htx m x hx V (ho.trans o)
            obtain ⟨X, hX⟩ : ∃ X, wayE l k (foldS e.term) ++ (e.sees.take m).map foldS = X := ⟨_, rfl⟩
            have hXl : X.length ≤ 1000000 := by rw [← hX, List.length_append, List.length_map, List.length_take]; omega
            have HX1 : Hid (wayE l k (foldS e.term) ++ (e.sees.take (m + 1)).map foldS = X ++ [foldS x]) := Lib.hid (by rw [← hX, List.take_add_one, hx]; simp)
            rw [hX] at hWS
            have HWS := Lib.hid hWS
            clear hat3 htx hx hX hWS
            go_upto_region 10 with fail
            clear ck
            have HL0 := HWS.out.lookW hkp.out
            have HF := Lib.hid (Fold_any x wr.drew (HT.out.old ho.drew) hx1)
            go_region_held3 (fun _ => True) (trivial) (first
              | (go_at_call 51; refine HF.out.mono ?_; rintro e' w4 ⟨rfl, o4⟩; have oq4 := (Old.refl wr).drew.trans o4; have HW4 := Lib.hid (HWS.out.old (oq4.alloc (.cells (txE.enc (foldS x)).toArray 9))); have hrow4 : OwnS txE 9 wA _ (V3 (foldS e.term)) X := (by simpa using HW4.out.row (foldS e.term)); have hs4 := oq4.size)
              | (refine step_append_at (c := txE) (w0 := wA) (by rfl) _ _ 43 (by rfl) 9 Tryz.underlying43 (.string ⟨#[]⟩) infoStrK rfl (Nat.zero_lt_succ 0) (V3 (foldS e.term)) X [foldS x] (by rfl) hrow4 _ (by rfl) (Recs.oneAt (c := txE) w4 9 (foldS x) rfl) (Nat.zero_lt_succ 0) (by simp; omega) (by simp; omega) (Nat.le_trans hsA (Nat.le_trans hs4 (by simp))) ?_; intro g5 cp5 w5 hown5 hg5 hat5 hlt5; obtain ⟨w6, hrun6, hW6, hg6⟩ := HW4.out.add hx2 hown5 hg5 hat5 hkp.out (by omega); have HW6 := Lib.hid hW6; have Hg5 := Lib.hid hg5; have Hg6 := Lib.hid hg6; clear hW6 hown5 hat5 hlt5 hg5 hg6)
              | fail)
            all_goals
              have ho6 : Old w w6 := ((ho.trans (oq4.alloc _)).grown Hg5.out fun g e => by have := (World.ownsRow.lt hrow4 g e).1; have := HlA.out; omega).grown Hg6.out fun g e => by have := Option.some.inj e; have := HlA.out; omega
              have hs6 : wA.heap.size ≤ w6.heap.size := Nat.le_trans hsA (Nat.le_trans hs4 (Nat.le_trans (by simp) (Nat.le_trans Hg5.out.size Hg6.out.size)))
              rw [← HX1.out] at HW6
              clear hrow4 hs4 oq4 o4 HF HL0 hrun6 HW4 HWS
              go_wp2_with fail
              go_roundw
              case rel => exact ⟨m + 1, n3 + 1, _, by go_num, by omega, by omega, HW6.out, ho6, hs6⟩
              case measure => simp [intOf]; omega
          · obtain rfl : m = e.sees.length := by omega
            have hi3 : ¬ (e.sees.length : Int) < e.sees.length := by omega
            rw [List.take_length, ← HWo'.out] at hWS
            have HWS := Lib.hid hWS
            clear hWS
            go_wp2_with fail
            go_roundw
            case rel => exact ⟨k + 1, n3, V3, by go_num, by omega, by have := Hsee.out; omega, HWS.out, ho, hsA⟩
            case measure => simp [intOf]; omega
      · have hn := str_nilK hsub
        have HWs' := Lib.hid (HWs.out hsub)
        clear hsub HWo HWs
        go_wp2_with fail
        go_roundw
        case rel => exact ⟨k + 1, nW, V, by go_num, by omega, by have := Hsee.out; omega, by rw [HWs'.out]; exact HWA.out, ho2, hsB⟩
        case measure => simp [intOf]; omega
    · obtain rfl : k = l.length := by omega
      have hi : ¬ (l.length : Int) < l.length := by omega
      have hww := Lib.hid HWS.out.ways
      obtain ⟨L, hL⟩ : ∃ L, wayE l l.length = L := ⟨_, rfl⟩
      rw [hL] at hww
      have HLU : Hid (∀ t, ∀ x ∈ L t, x ∈ (l.flatMap En.sees).map foldS) := Lib.hid fun t x hx => by
        rw [← hL, mem_wayE] at hx
        obtain ⟨i, e, _, he, _, _, y, hy, rfl⟩ := hx
        exact List.mem_map.2 ⟨y, List.mem_flatMap.2 ⟨e, List.mem_of_getElem? he, hy⟩, rfl⟩
      have HE : Hid ((fun a b => b ∈ L a) = edgeL l) := Lib.hid (by funext a b; rw [← hL]; exact propext wayE_edge)
      obtain ⟨U, hUe⟩ : ∃ U, (l.flatMap En.sees).map foldS = U := ⟨_, rfl⟩
      rw [hUe] at HLU
      have hUl : U.length ≤ 1000000 := by rw [← hUe, List.length_map]; omega
      have hF := Lib.hid (Fold_any s wr (HT.out.old ho) Hs.out.1)
      have hfs := Hs.out.2
      rw [Hfr.out] at hF
      clear HWS hL hUe hnW hsA
      go_upto_region 14 with (go_at_call 51; refine hF.out.mono ?_; rintro e' w1 ⟨rfl, o1⟩)
      have Ho1 := Lib.hid (ho.trans o1)
      have HW := Lib.hid (hww.out.old o1)
      clear hww hF ho o1 Ho
      have Hsm : Hid (∀ x, Rch (fun a b => b ∈ L a) frm x → x.size ≤ 4194304) := Lib.hid fun x hx => by
        cases hx with
        | refl => exact hfs
        | step _ he => exact HW.out.small _ x he
      have Hbd : Hid (∀ V i, Bfk (fun a b => b ∈ L a) frm V i → V.length ≤ U.length + 1) := Lib.hid fun V i h => h.bound (U := U) (fun x y hxy => HLU.out x y hxy)
      have hM0 := MapV.made Tryz.prog 9 Value.string w1
      have hkf := Lib.hid (keyK (s := frm) (by omega))
      clear HLU
      go_wp2_with (refine wpList_insert_mv rfl _ _ _ _ rfl 9 3 (string_keyed Tryz.underlying9) Value.string (fun _ _ => str_kv) Tryz.underlying54 w1.heap.size 0 _ rfl hM0 (by omega) frm _ rfl hkf.out (.int .i64 1) rfl ?_; intro w2 hM2 hg2)
      have ho2 : Old w1 w2 := ((Old.refl w1).alloc _).grown hg2 (fun k e => by have := Option.some.inj e; omega)
      have hs2 := hg2.size
      have hbl := hM2.lt
      have HM2 : Hid (MapV Tryz.prog 9 Value.string w2 w1.heap.size 1 (markV [frm])) := Lib.hid (by
        rw [show markV [frm] = fun q => if q = frm then some (.int .i64 1) else none from by
          funext q
          rw [show [frm] = [] ++ [frm] from rfl, markV_snoc]
          rfl]
        exact hM2)
      generalize hmb : w1.heap.size = mb at *
      have Hmb := Lib.hid hmb
      clear hmb hM0 hM2 hg2 hkf
      go_loopg [13, 14] (U.length + 2) (fun c o x wr => ∃ (O : List ByteArray) (i : Nat), QuS Value.string 9 w1 wr x ((frm :: O).drop i) ∧ x.ownBlock ≠ some mb ∧ OwnS txE 9 w1 wr o O ∧ o.ownBlock ≠ some mb ∧ (∀ g, x.ownBlock = some g → o.ownBlock ≠ some g) ∧ Bfk (fun a b => b ∈ L a) frm (frm :: O) i ∧ MapV Tryz.prog 9 Value.string wr mb (O.length + 1) (markV (frm :: O)) ∧ U.length + 2 - i ≤ c ∧ i ≤ U.length + 1 ∧ mb < wr.heap.size ∧ Old w1 wr)
      case atStart =>
        exact ⟨[], 0, QuS.one _ ho2.size, by simp [Value.ownBlock]; omega, OwnS.nil _ _ _ _, by simp [Value.ownBlock], by simp [Value.ownBlock], Bfk.init, HM2.out.old ((Old.refl w2).alloc _), Nat.le_refl _, Nat.zero_le _, by simp; omega, ho2.alloc _⟩
      case round =>
        clear HM2 hbl hs2 ho2
        obtain ⟨O, i, hQ, hqb, hOw, hob, hap, hB, hM, hc, hiU, hml, ho⟩ := hrel
        obtain ⟨V, hV⟩ : ∃ V, frm :: O = V := ⟨_, rfl⟩
        rw [hV] at hQ hB hM
        have HVe := Lib.hid hV
        have HB := Lib.hid hB
        have HM := Lib.hid hM
        have HQ := Lib.hid hQ
        have Hqb := Lib.hid hqb
        have HOw := Lib.hid hOw
        have Hob := Lib.hid hob
        have Hap := Lib.hid hap
        have hVl : V.length = O.length + 1 := by rw [← hV]; rfl
        have HVl := Lib.hid hVl
        obtain ⟨g, off', cap', rfl, hg1, hg2, hcap, hcap2⟩ := hQ.form
        have hil := HB.out.le
        have hOl : O.length ≤ 1000001 := by have := Hbd.out V i hB; omega
        clear hB hM hQ hqb hOw hob hap hV hVl
        cases hd : V.drop i with
        | nil =>
          have hVl2 : V.length ≤ i := by simpa using hd
          have Hr : Hid (IsFollow (edgeL l) frm (srt compareT O)) := Lib.hid (by
            rw [← HE.out]
            have := HB.out
            rw [← HVe.out] at this
            exact this.follow (by have := HVl.out; omega))
          obtain ⟨aO, cO, rfl, _, _⟩ := HOw.out.form
          have Hos : Hid (∀ x ∈ O, x.size ≤ 4194304) := Lib.hid fun x hx => Hsm.out x (HB.out.sound x (by rw [← HVe.out]; exact List.mem_cons_of_mem _ hx))
          have HS := Lib.hid (sortS_any O compareT compareT_ord (fun i j _ _ h => compareT_zero.1 h) (fun x => x.size ≤ 4194304) Hos.out 47 #[] (enters_of Tryz.func47 (by kernel_rfl) rfl) w1 wr aO cO HOw.out (by omega) (fun W hg s t hs ht => Compare_any s t W (HT.out.old ((Ho1.out.trans ho).grown hg fun g e => by have := (World.ownsRow.lt HOw.out g e).1; have := Ho1.out.size; omega)) hs ht))
          rw [List.length_nil]
          go_wp2_with (go_at_call 45; refine HS.out.mono ?_; rintro e' w5 ⟨rfl, hown5, hg5⟩)
          have Hown5 := Lib.hid hown5
          have ho5 := (Ho1.out.trans ho).grown hg5 fun g e => by have := (World.ownsRow.lt HOw.out g e).1; have := Ho1.out.size; omega
          have Ho5 := Lib.hid ho5
          clear hown5 hg5 ho5
          go_ret
          exact ⟨⟨_, _, rfl, Hr.out, Hown5.out.lower Ho1.out.size⟩, Ho5.out⟩
        | cons x q =>
          rw [hd] at HQ hcap
          have hx : V[i]? = some x := by
            have := congrArg (fun l => l[0]?) hd
            simpa using this
          have hq : V.drop (i + 1) = q := by
            have := congrArg List.tail hd
            simpa using this
          have hiV := (List.getElem?_eq_some_iff.1 hx).1
          have hxs := Hsm.out x (HB.out.sound x (List.mem_of_getElem? hx))
          have c0 := HQ.out.cell (i := 0) (x := x) rfl
          rw [Nat.add_zero] at c0
          obtain ⟨m, hm⟩ : ∃ m, (x :: q).length = m := ⟨_, rfl⟩
          rw [hm] at HQ hcap ⊢
          rw [List.length_cons] at hm
          have hm0 : (0 : Int) < m := by omega
          have Hd := Lib.hid hd
          have Hx := Lib.hid hx
          have Hq := Lib.hid hq
          have Hm := Lib.hid hm
          obtain ⟨al, cl, hGx, hTx⟩ := HW.out.get x
          have hLl : (L x).length ≤ 9223372036854775807 := by
            obtain ⟨_, _, _, k1, k2⟩ := hTx.form
            omega
          have HGx := Lib.hid hGx
          have HTx := Lib.hid hTx
          have hkx := Lib.hid (keyK (s := x) (by omega))
          clear hd hx hq hm hGx hTx
          go_wp2_with (first
            | (refine wpList_lookup_mv rfl _ _ _ rfl 9 43 (string_keyed Tryz.underlying9) Value.string Tryz.underlying102 (.slice none 0 0) zeroTxsK wb _ _ rfl (HW.out.old ho).mp x _ rfl hkx.out _ rfl ?_; rw [HGx.out]))
          obtain ⟨bt, ot, hat, htx⟩ := HTx.out.at1
          have Hat := Lib.hid hat
          have Htx := Lib.hid htx
          clear hat htx c0 hkx HGx
          go_loopw [13, 14, 66] (fun o u j wx => ∃ (O : List ByteArray) (k : Nat), j = .int .i64 k ∧ k ≤ (L x).length ∧ QuS Value.string 9 w1 wx u ((frm :: O).drop i) ∧ u.ownBlock ≠ some mb ∧ OwnS txE 9 w1 wx o O ∧ o.ownBlock ≠ some mb ∧ (∀ g, u.ownBlock = some g → o.ownBlock ≠ some g) ∧ Bfk (fun a b => b ∈ L a) frm (frm :: O) i ∧ (frm :: O)[i]? = some x ∧ MapV Tryz.prog 9 Value.string wx mb (O.length + 1) (markV (frm :: O)) ∧ (∀ (j : Nat) (y : ByteArray), j < k → (L x)[j]? = some y → y ∈ frm :: O) ∧ mb < wx.heap.size ∧ Old w1 wx) (fun _ _ j _ => (L x).length - (intOf j).toNat)
          case atStart => exact ⟨O, 0, rfl, Nat.zero_le _, by rw [HVe.out, Hd.out]; exact HQ.out, Hqb.out, HOw.out, Hob.out, Hap.out, by rw [HVe.out]; exact HB.out, by rw [HVe.out]; exact Hx.out, by rw [HVe.out]; exact HM.out, fun j y hj => absurd hj (Nat.not_lt_zero j), hml, ho⟩
          case round =>
            clear HQ Hqb HOw Hob Hap HB HM Hd Hx Hq Hm hiV hil hcap hcap2 hg1 hg2 hm0 hml hOl HVl HVe
            obtain ⟨O, k, rfl, hk, hQ, hqb, hOw, hob, hap, hB, hx, hM, hall, hml, ho⟩ := hrel
            obtain ⟨V, hV⟩ : ∃ V, frm :: O = V := ⟨_, rfl⟩
            rw [hV] at hQ hB hM hx hall
            have hVl : V.length = O.length + 1 := by rw [← hV]; rfl
            have HVe := Lib.hid hV
            have HVl := Lib.hid hVl
            obtain ⟨g, off', cap', rfl, hg1, hg2, hcap, hcap2⟩ := hQ.form
            have HQ := Lib.hid hQ
            have Hqb := Lib.hid hqb
            have HOw := Lib.hid hOw
            have Hob := Lib.hid hob
            have Hap := Lib.hid hap
            have HB := Lib.hid hB
            have Hx := Lib.hid hx
            have HM := Lib.hid hM
            have Hall := Lib.hid hall
            have hiV := (List.getElem?_eq_some_iff.1 hx).1
            have hVb := Hbd.out V i hB
            have hOl : O.length ≤ 1000001 := by omega
            have hql : (V.drop i).length ≤ 1000001 := by rw [List.length_drop]; omega
            obtain ⟨q0, hq0⟩ : ∃ q0, V.drop i = q0 := ⟨_, rfl⟩
            rw [hq0] at HQ hcap hql
            rw [hq0]
            have Hq0 := Lib.hid hq0
            clear hQ hqb hOw hob hap hB hx hM hall hq0 hV hVl
            by_cases hlt : k < (L x).length
            · have hi : (k : Int) < (L x).length := by omega
              obtain ⟨y, hy⟩ : ∃ y, (L x)[k]? = some y := ⟨_, List.getElem?_eq_getElem hlt⟩
              obtain rfl := Hat.out (by omega)
              have ck := Htx.out k y hy _ ho
              have hyL := List.mem_of_getElem? hy
              have hys := Hsm.out y (.step (HB.out.sound x (List.mem_of_getElem? Hx.out)) hyL)
              have hky := Lib.hid (keyK (s := y) (by omega))
              have Hnx : Hid (∀ V' : List ByteArray, (∀ z, z ∈ V → z ∈ V') → y ∈ V' → ∀ (j : Nat) (z : ByteArray), j < k + 1 → (L x)[j]? = some z → z ∈ V') := Lib.hid fun V' h1 h2 j z hj hz => by
                rcases Nat.lt_or_ge j k with h | h
                · exact h1 z (Hall.out j z h hz)
                · obtain rfl : j = k := by omega
                  obtain rfl := Option.some.inj (hy.symm.trans hz)
                  exact h2
              clear hy
              by_cases hin : y ∈ V
              · have Hin := Lib.hid hin
                have Hmk := Lib.hid (markV_in hin)
                clear hin hyL
                go_wp2_with (refine wpList_lookup_mv rfl _ _ _ rfl 9 3 (string_keyed Tryz.underlying9) Value.string Tryz.underlying54 (.int .i64 0) zeroIntK mb _ _ rfl HM.out y _ rfl hky.out _ Hmk.out ?_; rw [show (some (Value.int .i64 1)).getD (.int .i64 0) = .int .i64 1 from rfl])
                go_roundw
                case rel => exact ⟨O, k + 1, by go_num, by omega, by rw [HVe.out, Hq0.out]; exact HQ.out, Hqb.out, HOw.out, Hob.out, Hap.out, by rw [HVe.out]; exact HB.out, by rw [HVe.out]; exact Hx.out, by rw [HVe.out]; exact HM.out, by rw [HVe.out]; exact Hnx.out V (fun _ h => h) Hin.out, hml, ho⟩
                case measure => simp [intOf]; omega
              · have HB1 := Lib.hid (HB.out.put (List.mem_of_getElem? Hx.out) hyL hin)
                have Hmk := Lib.hid (markV_out hin)
                have Hmk1 := Lib.hid (markV_snoc V y)
                have HV1 : Hid (frm :: (O ++ [y]) = V ++ [y]) := Lib.hid (by rw [← HVe.out]; rfl)
                have Hdr : Hid ((V ++ [y]).drop i = q0 ++ [y]) := Lib.hid (by rw [← Hq0.out]; exact List.drop_append_of_le_length (by omega))
                clear hin hyL
                have hgb : (Value.slice (some ⟨g, off', none⟩) q0.length cap').ownBlock ≠ some mb := Hqb.out
                obtain ⟨aO, cO, rfl, hcO1, hcO2⟩ := HOw.out.form
                go_wp2_with (first
                  | (refine wpList_lookup_mv rfl _ _ _ rfl 9 3 (string_keyed Tryz.underlying9) Value.string Tryz.underlying54 (.int .i64 0) zeroIntK mb _ _ rfl HM.out y _ rfl hky.out _ Hmk.out ?_; rw [show (none : Option Value).getD (.int .i64 0) = .int .i64 0 from rfl])
                  | (refine wpList_update_mv rfl _ _ _ _ rfl 9 3 (string_keyed Tryz.underlying9) Value.string (fun _ _ => str_kv) Tryz.underlying54 mb _ _ rfl HM.out (by omega) y _ rfl hky.out (.int .i64 1) rfl ?_; intro w3 hM3 hg3; have HQ3 := Lib.hid (HQ.out.kept hg3 Hqb.out); have HO3 := Lib.hid (HOw.out.kept hg3 (.inr Hob.out)); have hs3 := hg3.size; have ho3 : Old w1 w3 := ho.grown hg3 (fun b hb => by have := Option.some.inj hb; have := Hmb.out; omega))
                  | (at_builtin; go_loud (refine wpList_append_qs (en := Value.string) (w0 := w1) (fun _ => rfl) rfl _ _ 43 rfl 9 Tryz.underlying43 (.string ⟨#[]⟩) infoStr rfl (.slice (some ⟨g, off', none⟩) q0.length cap') q0 rfl (HQ3.out.old ((Old.refl w3).alloc _)) w3.heap.size y rfl (by simp [go_sem]) (by omega) (by omega) (by have := ho3.size; simp; omega) ?_); intro v4 w4 hQ4 hg4 hat4; have HO4 := Lib.hid ((HO3.out.old ((Old.refl w3).alloc _)).kept hg4 (.inr (Hap.out g rfl))); have hs4 := hg4.size)
                  | (at_builtin; go_loud (refine wpList_append_at (c := txE) (w0 := w1) rfl _ _ 43 rfl 9 Tryz.underlying43 (.string ⟨#[]⟩) infoStr rfl (Nat.zero_lt_succ 0) (.slice aO O.length cO) O [y] rfl (HO4.out.old ((Old.refl w4).alloc _)) _ rfl (Recs.oneAt (c := txE) w4 9 y rfl) (Nat.zero_lt_succ 0) (by simp; omega) (by simp; omega) (by have := ho3.size; simp at hs4 ⊢; omega) ?_); intro g5 cp5 w5 hown5 hg5 hat5 hlt5))
                rw [← Hmk1.out] at hM3
                rw [← Hdr.out] at hQ4
                obtain ⟨g4, of4, cp4, rfl, hg41, hg42, _, _⟩ := hQ4.form
                have hlO : ∀ j, (Value.slice aO O.length cO).ownBlock = some j → j < w3.heap.size := fun j hj => (World.ownsRow.lt HO3.out j hj).2
                have hs4' : w3.heap.size + 1 ≤ w4.heap.size := by simpa using hs4
                have hne : (Value.slice (some ⟨g4, of4, none⟩) (List.drop i (V ++ [y])).length cp4).ownBlock ≠ (Value.slice aO O.length cO).ownBlock := by
                  intro e
                  have e1 : (Value.slice aO O.length cO).ownBlock = some g4 := e.symm
                  rcases hat4 with h | ⟨j, h, hj⟩
                  · exact Hap.out g4 h.symm e1
                  · have := hlO g4 e1
                    have hj4 : g4 = j := Option.some.inj h
                    simp at hj
                    omega
                have hQ5 := (hQ4.old ((Old.refl w4).alloc _)).kept hg5 hne
                have hM5 := ((((hM3.old ((Old.refl w3).alloc _)).kept hg4 (fun e => hgb e.symm)).old ((Old.refl w4).alloc _)).kept hg5 (fun e => Hob.out e.symm))
                have hO5 : Old w1 w5 := (((ho3.alloc _).grown hg4 (fun b hb => by have : g = b := Option.some.inj hb; omega)).alloc _).grown hg5 (fun b hb => (World.ownsRow.lt HO3.out b hb).1)
                have hq5 : (Value.slice (some ⟨g4, of4, none⟩) (List.drop i (V ++ [y])).length cp4).ownBlock ≠ some mb := by
                  rcases hat4 with h | ⟨j, h, hj⟩
                  · rw [h]; exact hgb
                  · rw [h]
                    intro e
                    have := Option.some.inj e
                    simp at hj
                    omega
                have ho5 : g5 ≠ mb ∧ g5 ≠ g4 := by
                  rcases hat5 with h | h
                  · exact ⟨fun e => Hob.out (e ▸ h), fun e => hne (by rw [h, e]; rfl)⟩
                  · simp at h
                    omega
                have hs5 : mb < w5.heap.size := by
                  have := hg5.size
                  simp at this
                  omega
                have HQ5 := Lib.hid hQ5
                have HM5 := Lib.hid hM5
                have HOO := Lib.hid hO5
                have Hq5 := Lib.hid hq5
                have Ho5 := Lib.hid ho5
                have HOw5 := Lib.hid hown5
                clear hM3 hQ4 hat4 hg3 hg4 hg5 hat5 hne hQ5 hM5 hO5 hq5 ho5 hown5 hlO HQ3 HO3 HO4
                go_roundw
                case rel => exact ⟨O ++ [y], k + 1, by go_num, by omega, by rw [HV1.out]; exact HQ5.out, Hq5.out, by have := HOw5.out; simpa using this, fun e => Ho5.out.1 (Option.some.inj e), fun j hj e => Ho5.out.2 ((Option.some.inj e).trans (Option.some.inj hj).symm), by rw [HV1.out]; exact HB1.out, by rw [HV1.out, List.getElem?_append_left hiV]; exact Hx.out, by rw [HV1.out, List.length_append, List.length_singleton]; exact HM5.out, by rw [HV1.out]; exact Hnx.out _ (fun z h => List.mem_append_left _ h) (by simp), hs5, HOO.out⟩
                case measure => simp [intOf]; omega
            · obtain rfl : k = (L x).length := by omega
              have hi : ¬ ((L x).length : Int) < (L x).length := by omega
              have HB1 := Lib.hid (HB.out.next Hx.out fun y hy => by
                obtain ⟨j, hj⟩ := List.getElem?_of_mem hy
                exact Hall.out j y (List.getElem?_eq_some_iff.1 hj).1 hj)
              obtain ⟨q, hq⟩ : ∃ q, V.drop i = x :: q ∧ V.drop (i + 1) = q := by
                refine ⟨V.drop (i + 1), ?_, rfl⟩
                rw [List.drop_eq_getElem_cons hiV]
                have := List.getElem?_eq_getElem hiV
                rw [Hx.out] at this
                rw [← Option.some.inj this]
              obtain ⟨hq1, hq2⟩ := hq
              rw [Hq0.out] at hq1
              subst hq1
              obtain ⟨m, hm⟩ : ∃ m, (x :: q).length = m := ⟨_, rfl⟩
              have hqb2 : g ≠ mb := fun e => Hqb.out (by rw [e]; rfl)
              have Hap2 : Hid (u13.ownBlock ≠ some g) := Lib.hid (Hap.out g rfl)
              rw [hm]
              rw [hm] at HQ hcap
              rw [List.length_cons] at hm
              have hm0 : (0 : Int) < m := by omega
              have hm1 : (1 : Int) ≤ m := by omega
              have hm2 : (m : Int) ≤ cap' := by omega
              have hcp : (1 : Int) ≤ cap' := by omega
              have Hm := Lib.hid hm
              have Hq2 := Lib.hid hq2
              clear hq2 hm Hqb
              go_upto_region 18 with fail
              go_cut [14] (fun u wy => QuS Value.string 9 w1 wr u q ∧ u.ownBlock ≠ some mb ∧ u.ownBlock = some g ∧ wr = wy)
              case first =>
                go_wp2_with fail
                · have hcap1 : cap' = 1 := by assumption
                  rw [hcap1] at HQ hcap
                  obtain ⟨hq, hq0⟩ := HQ.out.last
                  go_meet
                  have hm10 : m - 1 = 0 := by omega
                  refine ⟨?_, fun e => hqb2 (Option.some.inj e), rfl, rfl⟩
                  rw [hq]
                  simpa [hm10] using hq0
                · go_meet
                  refine ⟨?_, fun e => hqb2 (Option.some.inj e), rfl, rfl⟩
                  have h := HQ.out.tail
                  have hml : q.length = m - 1 := by have := Hm.out; omega
                  rw [hml] at h
                  simpa using h
              case rest =>
                obtain ⟨hQ2, hqb3, hqg, rfl⟩ := hcut
                have HQ2 := Lib.hid hQ2
                have Hq3 := Lib.hid hqb3
                have Hqg := Lib.hid hqg
                clear hQ2 hqb3 hqg
                go_wp2_with fail
                go_roundg (gk - 1)
                case measure => omega
                case rel => exact ⟨O, i + 1, by rw [HVe.out, Hq2.out]; exact HQ2.out, Hq3.out, HOw.out, Hob.out, fun j hj => (Option.some.inj (Hqg.out.symm.trans hj)) ▸ Hap2.out, by rw [HVe.out]; exact HB1.out, by rw [HVe.out]; exact HM.out, by omega, by omega, hml, ho⟩
end Go.Proofs.YtohngjkedhpikaaGreatDoor
