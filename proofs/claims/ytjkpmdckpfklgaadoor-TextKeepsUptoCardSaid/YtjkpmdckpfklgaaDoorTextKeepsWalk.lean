/-
  TextKeeps: the walk of the statement.
-/
import Derived.Test.YtjkpmdckpfklgaaDoorTextAwake
import Derived.Test.YtjkpmdckpfklgaaDoorTextKeepsM
namespace Go.Proofs.YtjkpmdckpfklgaaDoor
open Go.RowKit
attribute [local go_sem] Old.refl Old.alloc Old.drew Old.setCell OldW.old

/-- what the cut parts are, in the statement's words -/
theorem cut_says (s : ByteArray) (wide : Int) : ∃ pa pb : ByteArray, cutV s (cutAt wide (cellsL s.data.toList) 0) = .tuple #[.string pa, .string pb] ∧ pa ++ pb = s ∧ (pa.size = 0 ∨ (wideS pa : Int) ≤ wide) ∧ (cellsL pa.data.toList).length ≤ (cellsL s.data.toList).length ∧
    (pb.size = 0 ∨ ∃ x, (cellsL s.data.toList)[(cellsL pa.data.toList).length]? = some x ∧ wide < (wideS pa : Int) + x.w) := by
  obtain ⟨h1, h2⟩ := cutAt_says (wide := wide) (t := cellsL s.data.toList) _ 0 rfl (Nat.zero_le _) (.inl rfl)
  rw [List.drop_zero, List.take_zero] at h1 h2
  have e0 : sumW [] = 0 := rfl
  rw [e0] at h1 h2
  have hch := cellsL_chain s.data.toList
  cases hc : cutAt wide (cellsL s.data.toList) 0 with
  | none =>
    refine ⟨s, ⟨#[]⟩, rfl, by apply ByteArray.ext; simp, ?_, Nat.le_refl _, .inl rfl⟩
    rcases h2 hc with h | h
    · left
      rw [h] at hch
      rw [← str_len, hch.1]; rfl
    · right
      exact h
  | some A =>
    obtain ⟨i, x, hx, rfl, hw, hi⟩ := h1 A hc
    obtain ⟨k1, k2⟩ := cells_ahead_len hx
    have hxa := (hch.2 i x hx).2
    have hxl := cellsL_at s.data.toList x (List.mem_of_getElem? hx)
    rw [str_len] at hxl
    have hl : (s.extract 0 x.a).data.toList = s.data.toList.take x.a := by rw [extract_list, List.drop_zero]
    have hil := (List.getElem?_eq_some_iff.1 hx).1
    refine ⟨s.extract 0 x.a, s.extract x.a s.size, rfl, ?_, ?_, ?_, .inr ⟨x, ?_, ?_⟩⟩
    · rw [extract_glue s (Nat.zero_le _) hxl]
      apply ByteArray.ext
      rw [ByteArray.data_extract]
      simp
    · rcases hi with rfl | hi
      · left
        rw [hxa, eK_zero, ← str_len, extract_list]; rfl
      · right
        unfold wideS
        rw [hl, k2]; exact hi
    · rw [hl, k1]; omega
    · rw [hl, k1]; exact hx
    · unfold wideS
      rw [hl, k2]; exact hw
theorem mt_of {t : ByteArray} (h : t.size = 0) : t.toList.isEmpty = true := by
  rw [ByteArray.toList_eq, show t.data.toList = [] from List.eq_nil_of_length_eq_zero (by rw [str_len]; omega)]; rfl
theorem nt_of {t : ByteArray} (h : ¬ t.size = 0) : t.toList.isEmpty = false := by
  rw [ByteArray.toList_eq]
  cases e : t.data.toList
  · have := str_len t
    rw [e] at this
    simp at this; omega
  · rfl
theorem extract_sz (s : ByteArray) {p q : Nat} (h : p ≤ q) (hq : q ≤ s.size) : (s.extract p q).size = q - p := by rw [ByteArray.size_extract]; omega
theorem repeat32 : ∀ k : Nat, Lib.repeatL [32] k = List.replicate k 32
  | 0 => rfl
  | k + 1 => by
    rw [Lib.repeatL, repeat32 k]; rfl
theorem infoU8 (w : World) : (Go.sizeOf 5).run Tryd.prog w = .ok 1 w := Tryd.sizeOf5 w
theorem cell_end {l : List UInt8} {k : Nat} {x : CellR} (hx : (cellsL l)[k]? = some x) : x.e ≤ l.length := by
  have hch := cellsL_chain l
  have hk := (List.getElem?_eq_some_iff.1 hx).1
  have he := eK_next hx
  by_cases h : k + 1 < (cellsL l).length
  · obtain ⟨y, hy⟩ : ∃ y, (cellsL l)[k + 1]? = some y := ⟨_, List.getElem?_eq_getElem h⟩
    have h1 := (hch.2 _ y hy).2
    have h2 := cellsL_at l y (List.mem_of_getElem? hy)
    omega
  · have : k + 1 = (cellsL l).length := by omega
    rw [this] at he
    have := hch.1
    omega
set_option maxRecDepth 100000 in
set_option maxHeartbeats 6400000 in
theorem textKeeps_row_walk (W : World) (hT : Tabs W) (s : ByteArray) (_ : s.size ≤ 9223372036854775807) (ys : s.size ≤ 1048576) (wide : Int) (bw : -9223372036854775808 ≤ wide ∧ wide ≤ 9223372036854775807) :
    Calls Tryd.prog 12 #[.string s, .int .i64 wide] W fun e w' => e = .returned (.bool true) ∧ Old W w' := by
  have H0 := Lib.hid (fun V (o : Old W V) => awake_any V (hT.old o))
  have HC := Lib.hid (fun V (o : Old W V) => Cells_any s V (hT.old o) (by omega))
  have HCut := Lib.hid (fun V (o : Old W V) => Cut_any s wide bw V (hT.old o) (by omega))
  obtain ⟨pa, pb, hcv, hab, hwa, hna, hnb⟩ := cut_says s wide
  rw [hcv] at HCut
  have hsz := congrArg ByteArray.size hab
  rw [ByteArray.size_append] at hsz
  have HWa := Lib.hid (fun V (o : Old W V) => Wide_any pa V (hT.old o) (by omega))
  have HCa := Lib.hid (fun V (o : Old W V) => Cells_any pa V (hT.old o) (by omega))
  have HWs := Lib.hid (fun V (o : Old W V) => Words_any s V (hT.old o) (by omega))
  have Hchain := Lib.hid (cellsL_chain s.data.toList)
  have Hcw := Lib.hid (cellsL_wide s.data.toList)
  have Hcat := Lib.hid (cellsL_at s.data.toList)
  have Hwall := Lib.hid (words_all s)
  have Hwb := Lib.hid (words_cover s).2
  have hlen := cellsL_len s.data.toList
  rw [str_len] at hlen
  have hwle := wideS_le pa
  have Hna := Lib.hid hna
  have Hnb := Lib.hid hnb
  have Hwa := Lib.hid hwa
  have Hab := Lib.hid hab
  clear hcv hab hwa hna hnb
  generalize hn : (cellsL pa.data.toList).length = n at Hna Hnb
  have Hn := Lib.hid hn
  clear hn
  go_enter Tryd.func12, Tryd.ntmps12
  go_wp2_with fail
  refine (H0.out _ (Old.refl W)).mono ?_
  rintro e w1 ⟨rfl, ho1⟩
  go_upto_region 4 with fail
  have hfresh : Bld w1.heap.size w1.heap.size [] (w1.alloc (.cells #[.pointer none, .slice none 0 0] 48)) := Lib.fresh_isBuilder _ _ w1
  have ob : Old w1 (w1.alloc (.cells #[.pointer none, .slice none 0 0] 48)) := (Old.refl w1).alloc _
  have hsz1 : w1.heap.size < (w1.alloc (.cells #[.pointer none, .slice none 0 0] 48)).heap.size := by simp
  generalize w1.alloc (.cells #[.pointer none, .slice none 0 0] 48) = w2 at *
  go_wp2_with fail
  refine (HC.out _ (ho1.trans ob)).mono ?_
  rintro e w3 ⟨⟨v3, rfl, hv3⟩, ho3⟩
  obtain ⟨a3, cap3, rfl, hc31, hc32⟩ := hv3.form
  have Hv3 := Lib.hid hv3
  have hfr3 := hfresh.old ho3
  have ob3 := ob.trans ho3
  clear hv3 hfresh ho3 ob
  go_wp2_with fail
  go_loopw [7] (fun j wr => ∃ k : Nat, j = .int .i64 k ∧ k ≤ (cellsL s.data.toList).length ∧ Bld w1.heap.size w1.heap.size (Lib.byteCells (s.data.toList.take (eK (cellsL s.data.toList) k))) wr ∧ Old w1 wr ∧ Lib.OthersKept 5 (some w1.heap.size) w3 wr) (fun j _ => (cellsL s.data.toList).length - (intOf j).toNat)
  case atStart => exact ⟨0, rfl, Nat.zero_le _, hfr3, ob3, Lib.OthersKept.refl _ _ _⟩
  case round =>
    obtain ⟨k, rfl, hk, hbld, ho, hkp⟩ := hrel
    have Hb := Lib.hid hbld
    have Hk := Lib.hid hkp
    have Hv := Lib.hid (Hv3.out.others (E := 33) (e := 5) (by decide) hkp hsz1)
    clear hbld hkp hfr3
    by_cases hlt : k < (cellsL s.data.toList).length
    · obtain ⟨x, hx⟩ : ∃ x, (cellsL s.data.toList)[k]? = some x := ⟨_, List.getElem?_eq_getElem hlt⟩
      have hxw := Hcw.out x (List.mem_of_getElem? hx)
      obtain ⟨hae, hxa⟩ := Hchain.out.2 k x hx
      have hel := cell_end hx
      rw [str_len] at hel
      have hen := eK_next hx
      rw [← hxa] at Hb
      have hbl : (Lib.byteCells (s.data.toList.take x.a)).length = x.a := by rw [Lib.byteCells_length, List.length_take, str_len]; omega
      have HL := Lib.hid (fun (V : OldW wr) => (Tryd.Builder_Len w1.heap.size w1.heap.size _ V.w' (Hb.out.old V.old)).mono (fun e w' (h : _ ∧ w' = V.w') => (⟨h.1, h.2 ▸ Old.refl _⟩ : e = .returned (.int .i64 (Lib.byteCells (s.data.toList.take x.a)).length) ∧ Old V.w' w')))
      rw [hbl] at HL
      obtain ⟨a5, cap5, b5, off5, hv5, hc51, hc52, ha5, ht5⟩ := Hv.out.recs
      obtain ⟨rfl, rfl⟩ : a3 = a5 ∧ cap3 = cap5 := by injection hv5 with h1 h2 h3; exact ⟨h1, h3⟩
      obtain rfl := ha5 (by omega)
      have K := Recs.cellR ht5 hx
      have k0 := fun V (o : Old wr V) => (K V o).1
      have k1 := fun V (o : Old wr V) => (K V o).2.1
      have k2 := fun V (o : Old wr V) => (K V o).2.2
      have hmt := nt_of (t := s.extract x.a x.e) (by rw [extract_sz s (by omega) hel]; omega)
      have HXt := Lib.hid (show s.data.toList.take x.a ++ (s.extract x.a x.e).data.toList = s.data.toList.take x.e from by
        rw [extract_list]
        have h := List.take_append_drop x.a (s.data.toList.take x.e)
        rw [List.take_take, Nat.min_eq_left (by omega)] at h
        exact h)
      have hxs : (s.extract x.a x.e).size ≤ 4194304 := by have h2 := extract_size (s := s) (p := x.a) (i := x.e); omega
      have Hen := Lib.hid hen
      have Hcl := Lib.hid (fun V (o : Old wr V) => WriteString_any w1.heap.size w1.heap.size (Lib.byteCells (s.data.toList.take x.a)) (s.extract x.a x.e) V (Hb.out.old o) (by rw [hbl]; omega) (ho.trans o).size)
      have hi1 : (k : Int) < (cellsL s.data.toList).length := by omega
      clear K hx hxa hen ht5 hv5 ha5
      generalize (cellsL s.data.toList).length = L at *
      generalize s.extract x.a x.e = X at *
      generalize x.w = xw at *
      have hd1 : decide ((xw : Int) < 1) = false := by simp; omega
      have hd2 : decide ((2 : Int) < xw) = false := by simp; omega
      go_upto_region 8 with fail
      refine wp_region_old (Old.refl _) (by kernel_rfl) (by kernel_rfl) ?_
      repeat (go_big_quiet_step (with_reducible exact Calls.in_old (HL.out _)))
      refine wpQuiet_nil ?_
      rintro ⟨wq, hwq⟩
      dsimp only
      go_wp2_with (go_at_call 27; refine (Hcl.out _ hwq).mono ?_; rintro e w8 ⟨rfl, hb8, ho8, hk8⟩)
      go_roundw
      case rel => exact ⟨k + 1, by go_num, by omega, by rw [Hen.out, ← HXt.out, Lib.byteCells_append]; exact .inr hb8, Below.trans (ho.trans hwq) ho8, (Hk.out.trans (fun _ _ h _ _ => hwq.heap h)).trans hk8⟩
      case measure => simp [intOf]; omega
    · obtain rfl : k = (cellsL s.data.toList).length := by omega
      rw [← Hchain.out.1, List.take_length] at Hb
      have how : Old W wr := ho1.trans ho
      have hi1 : ¬ ((cellsL s.data.toList).length : Int) < (cellsL s.data.toList).length := by omega
      go_wp2_with fail
      refine (HCut.out _ how).mono ?_
      rintro e w4 ⟨rfl, ho4⟩
      have HStr := Lib.hid (String_kept w1.heap.size w1.heap.size s.data.toList w4 (Hb.out.old ho4) (ho.trans ho4).size)
      rw [show (⟨s.data.toList.toArray⟩ : ByteArray) = s from by cases s; simp] at HStr
      have o4 := how.trans ho4
      have hkw4 : Lib.OthersKept 5 (some w1.heap.size) w3 w4 := Hk.out.trans (fun _ _ h _ _ => ho4.heap h)
      have E1 := Hab.out
      have hcat : ¬ 9223372036854775807 < pa.size + pb.size := by omega
      clear Hb Hk Hv
      go_upto_region 12 with fail
      go_cut [86] from 67 to 86 (fun v wx => v = .bool false ∧ Old W wx ∧ Lib.OthersKept 5 (some w1.heap.size) w3 wx)
      case' first =>
        by_cases hpa : pa.size = 0
        · have hmt := mt_of hpa
          go_wp2_with fail
          refine HStr.out.mono ?_
          rintro e w5 ⟨rfl, ho5, hk5⟩
          go_wp2_with fail
          go_meet
          exact ⟨rfl, Below.trans o4 (ho5.mono ho1.size), hkw4.trans hk5⟩
        · have hmt := nt_of hpa
          have hw : (wideS pa : Int) ≤ wide := Hwa.out.resolve_left hpa
          have hwd : decide (wide < (wideS pa : Int)) = false := by simp; omega
          go_wp2_with fail
          refine HStr.out.mono ?_
          rintro e w5 ⟨rfl, ho5, hk5⟩
          have o5 : Old W w5 := Below.trans o4 (ho5.mono ho1.size)
          go_wp2_with fail
          refine (HWa.out _ o5).mono ?_
          rintro e w6 ⟨rfl, ho6⟩
          go_wp2_with fail
          go_meet
          exact ⟨rfl, o5.trans ho6, (hkw4.trans hk5).trans (fun _ _ h _ _ => ho6.heap h)⟩
      obtain ⟨rfl, o5, hk5⟩ := hcut
      have Hv5 := Lib.hid (Hv3.out.others (E := 33) (e := 5) (by decide) hk5 hsz1)
      generalize wc = w5 at *
      go_wp2_with fail
      refine (HCa.out _ o5).mono ?_
      rintro e w7 ⟨⟨v7, rfl, hv7⟩, ho7⟩
      obtain ⟨a7, cap7, rfl, hc71, hc72⟩ := hv7.form
      have hn := Hn.out
      rw [hn] at hc71 ⊢
      have o7 := o5.trans ho7
      have Hv7 := Lib.hid (Hv5.out.old ho7)
      clear hv7 hn hk5 Hv5
      have hL0 := Hna.out
      generalize hLe : (cellsL s.data.toList).length = L at *
      have HG := Lib.hid (fun (V : OldW w7) => HWa.out V.w' (o7.trans V.old))
      have hxx : pb.size = 0 ∨ ∃ x, (cellsL s.data.toList)[n]? = some x ∧ wide < (wideS pa : Int) + x.w ∧ x.w ≤ 2 := by
        rcases Hnb.out with h | ⟨x, h1, h2⟩
        · exact .inl h
        · exact .inr ⟨x, h1, h2, (Hcw.out x (List.mem_of_getElem? h1)).2⟩
      have Hxx := Lib.hid hxx
      clear hxx
      go_upto_region 15 with fail
      go_cut [119] from 90 to 119 (fun v wx => v = .bool false ∧ Old w7 wx)
      case' first =>
        have hnL : decide (L < n) = false := by simp; omega
        by_cases hpb : pb.size = 0
        · have hmt := mt_of hpb
          refine wp_region_old (Old.refl _) (by kernel_rfl) (by kernel_rfl) ?_
          repeat (go_big_quiet_step (fail))
          refine wpQuiet_nil ?_
          rintro ⟨wv, hv⟩
          dsimp only
          go_wp2_with fail
          go_meet
          exact ⟨rfl, hv⟩
        · have hmt := nt_of hpb
          by_cases hw0 : 0 ≤ wide
          · have hwd : decide ((0 : Int) ≤ wide) = true := by simp; omega
            obtain ⟨x, hx, hwx, hx2⟩ := Hxx.out.resolve_left hpb
            have hnl := (List.getElem?_eq_some_iff.1 hx).1
            rw [hLe] at hnl
            have hLn : decide (L ≤ n) = false := by simp; omega
            obtain ⟨a5, cap5, b5, off5, hv5, hc51, hc52, ha5, ht5⟩ := Hv7.out.recs
            obtain ⟨rfl, rfl⟩ : a3 = a5 ∧ cap3 = cap5 := by injection hv5 with h1 h2 h3; exact ⟨h1, h3⟩
            obtain rfl := ha5 (by omega)
            have K := Recs.cellR ht5 hx
            have k2 := fun V (o : Old w7 V) => (K V o).2.2
            have hni : (n : Int) < L := by omega
            clear K hx ht5 hv5 ha5
            generalize x.w = xw at *
            have hq : IntKind.i64.wrap ((wideS pa : Int) + xw) = ((wideS pa + xw : Nat) : Int) := by rw [wrap_id (by omega) (by omega)]; omega
            have hq' : (wideS pa : Int) + xw = ((wideS pa + xw : Nat) : Int) := by omega
            have hqw : decide (((wideS pa + xw : Nat) : Int) ≤ wide) = false := by simp; omega
            generalize wideS pa + xw = q at *
            refine wp_region_old (Old.refl _) (by kernel_rfl) (by kernel_rfl) ?_
            repeat (go_big_quiet_step (with_reducible exact Calls.in_old (HG.out _)))
            refine wpQuiet_nil ?_
            rintro ⟨wv, hv⟩
            dsimp only
            go_wp2_with fail
            go_meet
            exact ⟨rfl, hv⟩
          · have hwd : decide ((0 : Int) ≤ wide) = false := by simp; omega
            refine wp_region_old (Old.refl _) (by kernel_rfl) (by kernel_rfl) ?_
            repeat (go_big_quiet_step (fail))
            refine wpQuiet_nil ?_
            rintro ⟨wv, hv⟩
            dsimp only
            go_wp2_with fail
            go_meet
            exact ⟨rfl, hv⟩
      obtain ⟨rfl, o8⟩ := hcut
      have o8' := o7.trans o8
      generalize wc = w8 at *
      have HRp := Lib.hid (fun V => Tryd.strings_Repeat ⟨#[32]⟩ s.size V (by omega) (by show 1 * s.size ≤ _; omega))
      obtain ⟨R, hR⟩ : ∃ R : ByteArray, R = ⟨(List.replicate s.size 32).toArray⟩ := ⟨_, rfl⟩
      rw [show (⟨(Lib.repeatL (⟨#[32]⟩ : ByteArray).data.toList s.size).toArray⟩ : ByteArray) = R from by rw [hR, ← repeat32]] at HRp
      have hRl : R.data.toList = List.replicate s.size 32 := by rw [hR]
      have hRs : R.size = s.size := by rw [← str_len, hRl, List.length_replicate]
      have HRl := Lib.hid hRl
      clear hR hRl
      go_wp2_with fail
      refine (HRp.out _).mono ?_
      rintro e w9 ⟨rfl, ho9⟩
      obtain ⟨cap, w10, r10, hc101, hc102, hl10, ho10, hlt10⟩ := conv_laid w9 R (by omega)
      have o9 : Old W w9 := o8'.trans ho9
      have hgW := o9.size
      generalize w9.heap.size = g at *
      rw [hRs] at r10 hc101
      rw [HRl.out] at hl10
      have Hl10 := Lib.hid hl10
      have o10 := o9.trans ho10
      clear hl10 hRs
      go_wp2_with fail
      refine (HWs.out _ o10).mono ?_
      rintro e w11 ⟨⟨v11, rfl, hv11⟩, ho11⟩
      obtain ⟨a11, cap11, rfl, hc111, hc112⟩ := hv11.form
      have Hv11 := Lib.hid hv11
      have o11 := o10.trans ho11
      have hl11 := Hl10.out.old ho11
      have Hblk : Hid (∀ x, a11 = some x → x.block ≠ g) := fun x hx e => by
        rcases Nat.lt_or_ge 0 (wordsS s).length with h0 | h0
        · obtain ⟨g', h1, h2, _⟩ := Hv11.out.block h0
          rw [hx] at h1
          obtain rfl := Option.some.inj h1
          dsimp only at e
          omega
        · rcases Hv11.out.2 with ⟨h1, _⟩ | ⟨g', cp, cur, h1, h2, _⟩
          · injection h1 with h2; rw [hx] at h2; cases h2
          · injection h1 with h3
            rw [hx] at h3
            obtain rfl := Option.some.inj h3
            dsimp only at e
            omega
      clear hv11 ho10 ho11 r10
      go_wp2_with fail
      go_loopw [13] (fun j wr => ∃ k : Nat, j = .int .i64 k ∧ k ≤ (wordsS s).length ∧ OldBut g w11 wr ∧ Laid wr g (((wordsS s).take k).foldl (bareUp s.data.toList) (List.replicate s.size 32)) ∧ (((wordsS s).take k).foldl (bareUp s.data.toList) (List.replicate s.size 32)).length = s.data.toList.length) (fun j _ => (wordsS s).length - (intOf j).toNat)
      case atStart => exact ⟨0, rfl, Nat.zero_le _, OldBut.refl _ _, hl11, by rw [str_len]; simp⟩
      case round =>
        obtain ⟨k, rfl, hk, hob, hld, hbl⟩ := hrel
        have Hld := Lib.hid hld
        have Hob := Lib.hid hob
        have Hbl := Lib.hid hbl
        have Hv := Lib.hid (Hv11.out.but hob Hblk.out)
        have hrl : wr.heap.size ≥ w11.heap.size := hob.size
        clear hld hob hbl hl11
        by_cases hlt : k < (wordsS s).length
        · obtain ⟨x, hx⟩ : ∃ x, (wordsS s)[k]? = some x := ⟨_, List.getElem?_eq_getElem hlt⟩
          obtain ⟨hae, hel⟩ := Hwb.out x (List.mem_of_getElem? hx)
          obtain ⟨a5, cap5, b5, off5, hv5, hc51, hc52, ha5, ht5⟩ := Hv.out.recs
          obtain ⟨rfl, rfl⟩ : a11 = a5 ∧ cap11 = cap5 := by injection hv5 with h1 h2 h3; exact ⟨h1, h3⟩
          obtain rfl := ha5 (by omega)
          have K := Recs.cellR ht5 hx
          have k0 := fun V (o : Old wr V) => (K V o).1
          have k1 := fun V (o : Old wr V) => (K V o).2.1
          have hxs := extract_sz s (by omega : x.a ≤ x.e) hel
          have hmt := nt_of (t := s.extract x.a x.e) (by omega)
          have Hstep : Hid (((wordsS s).take (k + 1)).foldl (bareUp s.data.toList) (List.replicate s.size 32) = bareUp s.data.toList (((wordsS s).take k).foldl (bareUp s.data.toList) (List.replicate s.size 32)) x) := by
            show _ = _
            rw [List.take_succ_eq_append_getElem hlt, List.foldl_append, (List.getElem?_eq_some_iff.1 hx).2]; rfl
          have Hxd : Hid ((s.extract x.a x.e).data.toList = (s.data.toList.drop x.a).take (x.e - x.a)) := by
            show _ = _
            rw [extract_list, List.drop_take]
          have hi1 : (k : Int) < (wordsS s).length := by omega
          have Hx : Hid (x.a < x.e ∧ x.e ≤ s.data.toList.length) := ⟨hae, by rw [str_len]; exact hel⟩
          clear K hx ht5 hv5 ha5
          generalize hB : ((wordsS s).take k).foldl (bareUp s.data.toList) (List.replicate s.size 32) = B at *
          clear hB
          generalize (wordsS s).length = L at *
          generalize hX : s.extract x.a x.e = X at *
          clear hX
          have hq : IntKind.i64.wrap ((x.a : Int) + X.size) = (x.e : Int) := by rw [wrap_id (by omega) (by omega)]; omega
          have hq' : (x.a : Int) + X.size = (x.e : Int) := by omega
          have hqd : decide (s.size < x.e) = false := by simp; omega
          have ha0 : decide ((x.a : Int) < 0) = false := by simp
          have hxz : X.size ≤ s.size - x.a := by omega
          have hcp : ¬ cap = x.a := by omega
          have hal : (x.a : Int) ≤ s.size := by omega
          clear hxs
          go_upto_region 22 with fail
          refine wp_region_old (Old.refl _) (by kernel_rfl) (by kernel_rfl) ?_
          repeat (go_big_quiet_step (fail))
          refine wpQuiet_nil ?_
          rintro ⟨wq, hwq⟩
          dsimp only
          go_upto_region 24 with fail
          have hwd := hwq.drew
          have Hl2 := Lib.hid (Hld.out.old hwd)
          refine wp_region_still_tail 12 (by kernel_rfl) (by kernel_rfl) ?_
          change wpStill _ _ wq.drew (fun a' => wpList _ _ _ _ a' wq.drew) _ _
          generalize wq.drew = wd at *
          simp only [List.take_succ_cons, List.take_zero, List.drop_succ_cons, List.drop_zero]
          repeat still_step
          refine wpStill_nil ?_
          refine wpList_copy_string rfl (.tmp 169) (.tmp 174) 46 9 rfl 5 Tryd.underlying46 infoU8 g x.a (s.size - x.a) (cap - x.a) rfl X rfl hxz (fun j hj => by rw [(Hl2.out (x.a + j) (by have h1 := Hbl.out; rw [str_len] at h1; omega)).1]; rfl) (fun j hj => (Hl2.out (x.a + j) (by have h1 := Hbl.out; rw [str_len] at h1; omega)).2) ?_
          have Hl3 := Lib.hid (laid_copy Hl2.out Hx.out Hbl.out)
          rw [← Hxd.out] at Hl3
          have Hob3 := Lib.hid ((Hob.out.old hwd).trans (OldBut.setCells wd x.a (X.data.toList.map fun x => Value.int .u8 (x.toNat : Int))))
          generalize wd.setCells g x.a (X.data.toList.map fun x => Value.int .u8 (x.toNat : Int)) = w12 at *
          go_wp2_with fail
          go_roundw
          case rel => exact ⟨k + 1, by go_num, by omega, Hob3.out, by rw [Hstep.out]; exact Hl3.out, by rw [Hstep.out]; exact bareUp_len Hx.out Hbl.out⟩
          case measure => simp [intOf]; omega
        · obtain rfl : k = (wordsS s).length := by omega
          have hld := Hld.out
          rw [List.take_length, Hwall.out] at hld
          have hback := conv_back (cap := cap) hld
          rw [str_len, show (⟨s.data.toList.toArray⟩ : ByteArray) = s from by cases s; simp] at hback
          have hi1 : ¬ ((wordsS s).length : Int) < (wordsS s).length := by omega
          have hfin : Old W wr := Hob.out.base o11 hgW
          clear hld
          go_wp2_with fail
          go_ret
          exact ⟨by trivial, hfin⟩
end Go.Proofs.YtjkpmdckpfklgaaDoor
