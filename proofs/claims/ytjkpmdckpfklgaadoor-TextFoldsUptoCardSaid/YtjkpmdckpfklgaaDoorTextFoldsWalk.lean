/-
  TextFolds: the walk of the statement.
-/
import Derived.Test.YtjkpmdckpfklgaaDoorTextAwake
import Derived.Test.YtjkpmdckpfklgaaDoorTextFoldP
import Derived.Test.YtjkpmdckpfklgaaDoorTextRefF
import Derived.Test.YtjkpmdckpfklgaaDoorBuilder2
import Derived.Test.YtjkpmdckpfklgaaDoorTextCodesB
namespace Go.Proofs.YtjkpmdckpfklgaaDoor
open Go.RowKit
attribute [local go_sem] Old.refl Old.alloc Old.drew Old.setCell OldW.old

theorem fld_len {P : List UInt8} (hw : Whole P) : (fldP P).length = P.length := by
  by_cases hb : badP P
  · rw [fldP_bad hb]
  · rw [fldP_good hb]
    have he := Lib.encode_decode P hw.1 hb
    rw [hw.2, List.take_length] at he
    rcases smallC_cases (Lib.decodeL P).1 with h | ⟨h1, h2, h3⟩ | ⟨h1, h2, h3, h4⟩
    · rw [h, he]
    · rw [h3, (decode_one (by omega) (by omega)).2, ← (decode_one (r := ((Lib.decodeL P).1 : Int)) (by omega) (by omega)).2, he]
    · by_cases hk : ((Lib.decodeL P).1 : Int) ≤ 2047
      · rw [(decode_two (by omega) (by omega)).2, ← (decode_two (r := ((Lib.decodeL P).1 : Int)) (by omega) hk).2, he]
      · omega
theorem foldL_len : ∀ (ps : List (List UInt8)) (w : Bool) (t : List UInt8), (∀ P ∈ ps, Whole P) → (foldL ps w t).length ≤ t.length + (if w then 1 else 0) + ps.flatten.length
  | [], w, t, _ => by simp [foldL]
  | P :: ps, w, t, h => by
    have hP := h P (by simp)
    have hr : ∀ Q ∈ ps, Whole Q := fun Q hQ => h Q (by simp [hQ])
    have hl : 1 ≤ P.length := List.length_pos_iff.2 hP.1
    rw [foldL, List.flatten_cons, List.length_append]
    by_cases hb : blk P
    · rw [if_pos hb]
      have := foldL_len ps (decide (0 < t.length)) t hr
      cases hd : decide (0 < t.length) <;> rw [hd] at this <;> simp at this ⊢ <;> omega
    · rw [if_neg hb]
      have := foldL_len ps false ((if w then t ++ [32] else t) ++ fldP P) hr
      rw [List.length_append, fld_len hP] at this
      cases w <;> simp at this ⊢ <;> omega
theorem foldS_size (s : ByteArray) : (foldS s).size ≤ s.size := by
  have hp := pcs_parse (l := s.data.toList) _ 0 rfl
  rw [List.drop_zero] at hp
  have := foldL_len _ false [] hp.whole
  rw [← foldB_pcs, hp.flat, str_len] at this
  have e : (foldS s).size = (foldB s).length := by rw [← str_len]; rfl
  rw [e]
  simpa using this
/-- a piece of a text -/
def pcAt (l : List UInt8) (p : Nat) : List UInt8 := (l.drop p).take (chN l p)
theorem pcAt_facts {l : List UInt8} {p : Nat} (h : p < l.length) : Whole (pcAt l p) ∧ (Lib.decodeL (pcAt l p)).1 = chR l p ∧ (badP (pcAt l p) ↔ badC l p = true) ∧ (pcAt l p).length = chN l p := by
  have h1 := chN_pos l p
  have h2 := chN_le h
  have hlen : (pcAt l p).length = chN l p := by unfold pcAt; rw [List.length_take, List.length_drop]; omega
  have hne : pcAt l p ≠ [] := fun c => by rw [c] at hlen; simp at hlen; omega
  have e : l.drop p = pcAt l p ++ l.drop (p + chN l p) := by
    unfold pcAt; rw [← List.drop_drop, List.take_append_drop]
  obtain ⟨hd, hw⟩ := piece_whole (r := l.drop (p + chN l p)) hne (by rw [← e, hlen]; rfl)
  rw [← e] at hd
  have hr : (Lib.decodeL (pcAt l p)).1 = chR l p := by rw [← hd]; rfl
  have hn : (Lib.decodeL (pcAt l p)).2 = chN l p := by rw [← hd]; rfl
  refine ⟨hw, hr, ?_, hlen⟩
  unfold badP badC
  rw [hr, hn]; simp
theorem pcs_cons {l : List UInt8} {p : Nat} (h : p < l.length) : pcs l p = pcAt l p :: pcs l (p + chN l p) := pcs_on h
/-- what stands for a piece, in the statement's words -/
def subQ (P : List UInt8) (b1 b2 bd b3 : Bool) : List (List UInt8) :=
  if b1 && b2 then [[32], [32], [32]] else if !bd && b3 then [Lib.encodeRune (smallC (Lib.decodeL P).1)] else [P]
theorem subQ_sub {l : List UInt8} {p : Nat} (h : p < l.length) {b1 b2 b3 : Bool} (h1 : ((chR l p : Int) == 32) = b1) : Sub (pcAt l p) (subQ (pcAt l p) b1 b2 (badC l p) b3) := by
  obtain ⟨_, hr, hb, _⟩ := pcAt_facts h
  unfold subQ
  split
  · rename_i hc
    refine .inr (.inl ⟨?_, rfl⟩)
    simp only [Bool.and_eq_true] at hc
    rw [hc.1, beq_iff_eq] at h1
    unfold blk
    omega
  · split
    · rename_i hc
      refine .inr (.inr ⟨fun k => ?_, rfl⟩)
      simp only [Bool.and_eq_true, Bool.not_eq_true'] at hc
      rw [hb.1 k] at hc
      cases hc.1
    · exact .inl rfl
theorem subQ_len {l : List UInt8} {p : Nat} (h : p < l.length) (b1 b2 b3 : Bool) : (subQ (pcAt l p) b1 b2 (badC l p) b3).flatten.length ≤ 3 * chN l p := by
  obtain ⟨hw, hr, hb, hl⟩ := pcAt_facts h
  have := chN_pos l p
  unfold subQ
  split
  · show 3 ≤ _; omega
  · split
    · rename_i hc
      simp only [Bool.and_eq_true, Bool.not_eq_true'] at hc
      have hb' : ¬ badP (pcAt l p) := fun k => by rw [hb.1 k] at hc; cases hc.1
      have := fld_len hw
      rw [fldP_good hb'] at this
      rw [List.flatten_cons, List.flatten_nil, List.append_nil, this]
      omega
    · rw [List.flatten_cons, List.flatten_nil, List.append_nil]; omega
theorem Subs.snoc {ps : List (List UInt8)} {P : List UInt8} {Q : List (List UInt8)} {done : List (List (List UInt8))} {all : List (List UInt8)} (h : ∀ Qs, Subs (P :: ps) Qs → Subs all (done ++ Qs)) (hq : Sub P Q) : ∀ Qs, Subs ps Qs → Subs all ((done ++ [Q]) ++ Qs) := fun Qs k => by
  rw [List.append_assoc]; exact h _ (Subs.cons hq k)
theorem flat_snoc (done : List (List (List UInt8))) (Q : List (List UInt8)) : (done ++ [Q]).flatten.flatten = done.flatten.flatten ++ Q.flatten := by
  rw [List.flatten_append, List.flatten_append, List.flatten_cons, List.flatten_nil, List.append_nil]
theorem Old.others {w w' : World} (h : Old w w') (e : TypeId) (b : Option Nat) : Lib.OthersKept e b w w' := fun _ _ hk _ _ => h.heap hk
set_option maxRecDepth 100000 in
set_option maxHeartbeats 6400000 in
theorem textFolds_row_walk (W : World) (hT : Tabs W) (s : ByteArray) (_ : s.size ≤ 9223372036854775807) (ys : s.size ≤ 1048576)
    (pk : List Int) (v : Value) (hN : Nums .i64 W v pk) (hb : ∀ i, i < pk.length → -9223372036854775808 ≤ ix pk i ∧ ix pk i ≤ 9223372036854775807) (_ : pk.length ≤ 140737488351232) (yp : pk.length ≤ 1048576) :
    Calls Tryd.prog 7 #[.string s, v] W fun e w' => e = .returned (.bool true) ∧ Old W w' := by
  have hfs := foldS_size s
  have H0 := Lib.hid (fun V (o : Old W V) => awake_any V (hT.old o))
  have H1 := Lib.hid (Fold_any s W hT (by omega))
  have H2 := Lib.hid (fun V (o : Old W V) => Fold_any (foldS s) V (hT.old o) (by omega))
  rw [fold_twice] at H2
  have H3 := Lib.hid (fun (u : ByteArray) (hu : foldS u = foldS s) (hs : u.size ≤ 4194304) V (o : Old W V) => by have h := Fold_any u V (hT.old o) hs; rw [hu] at h; exact h)
  have HC := Lib.hid (fun V => Chars_any s V (by omega))
  have HF := Lib.hid (fun (u : ByteArray) (Qs : List (List (List UInt8))) (h : Subs (pcs s.data.toList 0) Qs) (hu : u.data.toList = Qs.flatten.flatten) => fold_subs h hu)
  generalize foldS s = f at *
  obtain ⟨av, cv, bv, offv, rfl, hcv1, hcv2, hav, htv⟩ := hN
  have Hav := Lib.hid hav
  have Htv := Lib.hid htv
  have Hpb := Lib.hid hb
  clear hav htv hb
  go_enter Tryd.func7, Tryd.ntmps7
  go_wp2_with fail
  refine H1.out.mono ?_
  rintro e w1 ⟨rfl, ho1⟩
  go_wp2_with fail
  refine (H2.out _ ho1).mono ?_
  rintro e w2 ⟨rfl, ho2⟩
  go_wp2_with fail
  refine (H0.out _ (ho1.trans ho2)).mono ?_
  rintro e w3 ⟨rfl, ho3⟩
  have o3 := (ho1.trans ho2).trans ho3
  clear ho1 ho2 ho3
  go_upto_region 5 with fail
  have hfresh : Bld w3.heap.size w3.heap.size [] (w3.alloc (.cells #[.pointer none, .slice none 0 0] 48)) := Lib.fresh_isBuilder _ _ w3
  have ob : Old w3 (w3.alloc (.cells #[.pointer none, .slice none 0 0] 48)) := (Old.refl w3).alloc _
  have hsz3 : w3.heap.size < (w3.alloc (.cells #[.pointer none, .slice none 0 0] 48)).heap.size := by simp
  generalize w3.alloc (.cells #[.pointer none, .slice none 0 0] 48) = w3a at *
  go_wp2_with fail
  refine (HC.out _).mono ?_
  rintro e w4 ⟨⟨v4, rfl, hv4⟩, ho4⟩
  obtain ⟨a4, cap4, rfl, hc41, hc42⟩ := hv4.form
  have Hv4 := Lib.hid hv4
  have hfr4 := hfresh.old ho4
  have ob4 := ob.trans ho4
  clear hv4 hfresh ho4 ob
  go_wp2_with fail
  go_loopw [8] (fun j wr => ∃ (i p : Nat) (t : List UInt8) (Qs : List (List (List UInt8))), j = .int .i64 i ∧ i ≤ (charsAt s.data.toList 0).length ∧ p ≤ s.size ∧ t.length ≤ 3 * p ∧ Bld w3.heap.size w3.heap.size (Lib.byteCells t) wr ∧ Old w3 wr ∧ Lib.OthersKept 5 (some w3.heap.size) w4 wr ∧ (charsAt s.data.toList 0).drop i = charsAt s.data.toList p ∧ (∀ Q, Subs (pcs s.data.toList p) Q → Subs (pcs s.data.toList 0) (Qs ++ Q)) ∧ t = Qs.flatten.flatten) (fun j _ => (charsAt s.data.toList 0).length - (intOf j).toNat)
  case atStart => exact ⟨0, 0, [], [], rfl, Nat.zero_le _, Nat.zero_le _, Nat.zero_le _, hfr4, ob4, Lib.OthersKept.refl _ _ _, rfl, fun Q h => h, rfl⟩
  case round =>
    obtain ⟨i, p, t, Qs, rfl, hi, hp, htl, hbld, ho, hk, hdr, hqs, hts⟩ := hrel
    have Hdr := Lib.hid hdr
    have Hqs := Lib.hid hqs
    have Hts := Lib.hid hts
    have Hb := Lib.hid hbld
    have Hk := Lib.hid hk
    have Hv := Lib.hid ((Hv4.out.others (E := 39) (e := 5) (by decide) hk hsz3))
    clear hdr hqs hts hbld hk hfr4
    by_cases hlt : i < (charsAt s.data.toList 0).length
    · obtain ⟨hpl, hget, hnext⟩ := chars_step Hdr.out hlt
      have hpl' := hpl
      rw [str_len] at hpl
      have hn1 := chN_pos s.data.toList p
      have hn2 := chN_le (l := s.data.toList) (p := p) hpl'
      rw [str_len] at hn2
      have hr0 := chR_le s.data.toList p
      obtain ⟨a5, cap5, b5, off5, hv5, hc51, hc52, ha5, ht5⟩ := Hv.out.recs
      obtain ⟨rfl, rfl⟩ : a4 = a5 ∧ cap4 = cap5 := by injection hv5 with h1 h2 h3; exact ⟨h1, h3⟩
      obtain rfl := ha5 (by omega)
      have K := Recs.chr ht5 hget
      have k0 := fun V (o : Old wr V) => (K V o).1
      have k1 := fun V (o : Old wr V) => (K V o).2.1
      have k2 := fun V (o : Old wr V) => (K V o).2.2.1
      have k3 := fun V (o : Old wr V) => (K V o).2.2.2
      dsimp only at k0 k1 k2 k3
      clear K hget ha5 ht5 hv5
      have Hnext := Lib.hid hnext
      have HSm := Lib.hid (fun V => RSmall_any (chR s.data.toList p) V (by omega))
      have hi1 : (i : Int) < (charsAt s.data.toList 0).length := by omega
      have HSub := Lib.hid (fun b1 b2 b3 h => subQ_sub (b2 := b2) (b3 := b3) hpl' (b1 := b1) h)
      have HLen := Lib.hid (fun b1 b2 b3 => subQ_len hpl' b1 b2 b3)
      have HSn := Lib.hid (fun Q hQ => Subs.snoc (Q := Q) (by have h := Hqs.out; rw [pcs_cons hpl'] at h; exact h) hQ)
      have HXx := Lib.hid (show (s.extract p (p + chN s.data.toList p)).data.toList = pcAt s.data.toList p from by rw [extract_list, List.drop_take, Nat.add_sub_cancel_left]; rfl)
      have HXe := Lib.hid (show (Utf8.encode (smallC (chR s.data.toList p : Int))).data.toList = Lib.encodeRune (smallC (Lib.decodeL (pcAt s.data.toList p)).1) from by rw [(pcAt_facts hpl').2.1, encode_rune])
      clear hnext hpl' Hqs
      generalize pcAt s.data.toList p = P at *
      generalize chR s.data.toList p = R at *
      generalize badC s.data.toList p = bd at *
      generalize smallC (R : Int) = sm at *
      have hq : (p : Int) + chN s.data.toList p = ((p + chN s.data.toList p : Nat) : Int) := by omega
      have hpq : p < p + chN s.data.toList p := by omega
      have hqn : p + chN s.data.toList p - p = chN s.data.toList p := by omega
      generalize chN s.data.toList p = n at *
      generalize (charsAt s.data.toList 0).length = L at *
      generalize p + n = q at *
      have hqs : (q : Int) ≤ s.size := by omega
      have hpqi : (p : Int) ≤ q := by omega
      go_upto_region 9 with fail
      refine wp_region_old (Old.refl _) (by kernel_rfl) (by kernel_rfl) ?_
      repeat (go_big_quiet_step (fail))
      refine wpQuiet_nil ?_
      rintro ⟨wq, hwq⟩
      dsimp only
      have how : Old W wq := (o3.trans ho).trans hwq
      go_upto_if 50 with fail
      go_cut [10] from 47 to 54 (fun v wx => (∃ m : Int, v = .int .i64 m ∧ -9223372036854775808 ≤ m ∧ m ≤ 9223372036854775807) ∧ wq = wx)
      case' first =>
        by_cases hpk : i < pk.length
        · have hd : decide (i < pk.length) = true := by simp; omega
          have hii : (i : Int) < pk.length := by omega
          obtain rfl := Hav.out (by omega)
          have c0 := Htv.out i hpk wq how
          have hbb := Hpb.out i hpk
          generalize ix pk i = m at *
          go_wp2_with fail
          go_meet
          exact ⟨⟨m, rfl, hbb⟩, rfl⟩
        · have hd : decide (i < pk.length) = false := by simp; omega
          go_wp2_with fail
          go_meet
          exact ⟨⟨(0 : Int), rfl, by omega, by omega⟩, rfl⟩
      obtain ⟨⟨m, rfl, hm1, hm2⟩, rfl⟩ := hcut
      have Hbq : Bld w3.heap.size w3.heap.size (Lib.byteCells t) wq := Hb.out.old hwq
      have o3q : Old w3 wq := ho.trans hwq
      have hbl : (Lib.byteCells t).length = t.length := Lib.byteCells_length t
      have Hkq : Lib.OthersKept 5 (some w3.heap.size) w4 wq := Hk.out.trans (hwq.others _ _)
      have HWr := Lib.hid (fun (X : ByteArray) V (hV : wq = V) (hX : X.size ≤ 4194304) => by subst hV; exact WriteString_any w3.heap.size w3.heap.size (Lib.byteCells t) X wq Hbq (by rw [hbl]; omega) o3q.size)
      have HEnd := Lib.hid (fun (X : ByteArray) (Q : List (List UInt8)) (hQ : Sub P Q) (hl : Q.flatten.length ≤ 3 * n) w8 (hb8 : BldAt w3.heap.size w3.heap.size (Lib.byteCells t ++ Lib.byteCells X.data.toList) w8) (ho8 : Below w3.heap.size wq w8) (hk8 : Lib.OthersKept 5 (some w3.heap.size) wq w8) (hXQ : X.data.toList = Q.flatten) =>
        show (t ++ X.data.toList).length ≤ 3 * q ∧ Bld w3.heap.size w3.heap.size (Lib.byteCells (t ++ X.data.toList)) w8 ∧ Old w3 w8 ∧ Lib.OthersKept 5 (some w3.heap.size) w4 w8 ∧ (∀ Q', Subs (pcs s.data.toList q) Q' → Subs (pcs s.data.toList 0) ((Qs ++ [Q]) ++ Q')) ∧ t ++ X.data.toList = (Qs ++ [Q]).flatten.flatten from
        ⟨by rw [List.length_append, hXQ]; omega, by rw [Lib.byteCells_append]; exact .inr hb8, Below.trans o3q ho8, Hkq.trans hk8, HSn.out Q hQ, by rw [flat_snoc, ← Hts.out, hXQ]⟩)
      obtain ⟨b1, q1⟩ : ∃ b, ((R : Int) == 32) = b := ⟨_, rfl⟩
      obtain ⟨b2, q2⟩ : ∃ b, (m.tmod 2 != 0) = b := ⟨_, rfl⟩
      obtain ⟨b3, q3⟩ : ∃ b, (m.tmod 3 == 1) = b := ⟨_, rfl⟩
      have HS := Lib.hid (HSub.out b1 b2 b3 q1)
      have HL := Lib.hid (HLen.out b1 b2 b3)
      clear HSub HLen HSn Hb Hk Hv Hbq Hkq Hts
      cases b1 <;> cases b2 <;> cases bd <;> cases b3
      all_goals
        have hx1 : (s.extract p q).size ≤ 4194304 := by have h2 := extract_size (s := s) (p := p) (i := q); omega
        have hx2 : (Utf8.encode sm).size ≤ 4194304 := by have := encode_size_le sm; omega
        go_wp2_with (first | (go_at_call 16; refine (HSm.out _).mono ?_; rintro e w6 ⟨rfl, rfl⟩) | (go_at_call 27; refine (HWr.out _ _ rfl (by first | assumption | decide)).mono ?_; rintro e w8 ⟨rfl, hb8, ho8, hk8⟩))
        go_roundw
        case rel =>
          first
            | obtain ⟨e1, e2, e3, e4, e5, e6⟩ := HEnd.out ⟨#[32, 32, 32]⟩ _ HS.out HL.out _ hb8 ho8 hk8 rfl
            | obtain ⟨e1, e2, e3, e4, e5, e6⟩ := HEnd.out _ _ HS.out HL.out _ hb8 ho8 hk8 (by first | rfl | (rw [HXe.out]; simp [subQ]; done) | (rw [HXx.out]; simp [subQ]; done))
          exact ⟨i + 1, q, _, _, by go_num, by omega, by omega, e1, e2, e3, e4, Hnext.out, e5, e6⟩
        case measure => simp [intOf]; omega
    · have hend := chars_done Hdr.out hlt
      have Hsub := Lib.hid (show Subs (pcs s.data.toList 0) (Qs ++ []) from Hqs.out [] (by rw [pcs_end hend]; exact Subs.nil))
      rw [List.append_nil] at Hsub
      have HU := Lib.hid (HF.out ⟨t.toArray⟩ Qs Hsub.out (by rw [← Hts.out]))
      have hul : (⟨t.toArray⟩ : ByteArray).size ≤ 4194304 := by show t.toArray.size ≤ _; simp; omega
      have HFo := Lib.hid (fun V o => H3.out _ HU.out hul V o)
      have HStr := Lib.hid (Tryd.Builder_String_any w3.heap.size w3.heap.size t wr Hb.out ho.size)
      have hi1 : ¬ (i : Int) < (charsAt s.data.toList 0).length := by omega
      have how : Old W wr := o3.trans ho
      clear hend hul
      generalize (⟨t.toArray⟩ : ByteArray) = u at *
      generalize (charsAt s.data.toList 0).length = L at *
      go_wp2_with fail
      refine HStr.out.mono ?_
      rintro e w6 ⟨rfl, ho6⟩
      have o6 : Old W w6 := Below.trans how (ho6.mono o3.size)
      go_wp2_with fail
      refine (HFo.out _ o6).mono ?_
      rintro e w7 ⟨rfl, ho7⟩
      go_wp2_with fail
      go_ret
      exact ⟨by trivial, o6.trans ho7⟩
end Go.Proofs.YtjkpmdckpfklgaaDoor
