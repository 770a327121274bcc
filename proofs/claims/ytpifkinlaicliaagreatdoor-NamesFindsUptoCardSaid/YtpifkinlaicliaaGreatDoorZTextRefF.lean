/-
  TEXT, COMPARE: two texts.
-/
import Derived.Test.YtpifkinlaicliaaGreatDoorZTextCompare3
import Derived.Test.YtpifkinlaicliaaGreatDoorZShelf02
import Derived.Test.YtpifkinlaicliaaGreatDoorZTextFold
namespace Go.Proofs.YtpifkinlaicliaaGreatDoor
open Go.RowKit
attribute [local go_sem] Old.refl Old.alloc Old.drew Old.setCell OldW.old

theorem str_beq (a b : ByteArray) : (a.toList == b.toList) = decide (a = b) := by
  rw [ByteArray.toList_eq, ByteArray.toList_eq, Bool.eq_iff_iff, beq_iff_eq, decide_eq_true_iff]
  exact ⟨fun h => ByteArray.ext (Array.toList_inj.1 h), fun h => by rw [h]⟩
/-- two texts compared -/
def compareT (a b : ByteArray) : Int :=
  if a = b then 0 else orL [lexL cmpEl (elsS a) (elsS b), lexL (byF smallC) (runesI a) (runesI b), lexL (byF id) (runesI a) (runesI b), Lib.compareBytes a.data.toList b.data.toList]
set_option maxRecDepth 100000 in
set_option maxHeartbeats 1600000 in
theorem Compare_any (a b : ByteArray) (w : World) (hT : Tabs w) (ha : a.size ≤ 4194304) (hb : b.size ≤ 4194304) :
    Calls Tryz.prog 30 #[.string a, .string b] w fun e w' => e = .returned (.int .i64 (compareT a b)) ∧ Old w w' := by
  by_cases h : a = b
  · have Hs := Lib.hid (show compareT a b = 0 from if_pos h)
    have hs : (a.toList == b.toList) = true := by rw [str_beq]; simpa using h
    clear h
    go_enter Tryz.func30, Tryz.ntmps30
    go_wp2_with fail
    go_ret
    exact ⟨by rw [Hs.out]; rfl, Old.refl _⟩
  · have Hs := Lib.hid (show compareT a b = _ from if_neg h)
    have hs : (a.toList == b.toList) = false := by rw [str_beq]; simpa using h
    clear h
    have H1 := Lib.hid (fun V (o : Old w V) => byElements_any a b V (hT.old o) ha hb)
    have H2 := Lib.hid (fun V => byRunes_small a b V ha hb)
    have H3 := Lib.hid (fun V => byRunes_same a b V ha hb)
    have H4 := Lib.hid (fun V => Tryz.strings_Compare a b V)
    generalize lexL cmpEl (elsS a) (elsS b) = c1 at *
    generalize lexL (byF smallC) (runesI a) (runesI b) = c2 at *
    generalize lexL (byF id) (runesI a) (runesI b) = c3 at *
    generalize Lib.compareBytes a.data.toList b.data.toList = c4 at *
    go_enter Tryz.func30, Tryz.ntmps30
    go_wp2_with fail
    refine (H1.out _ (Old.refl w)).mono ?_
    rintro e w1 ⟨rfl, ho1⟩
    go_wp2_with fail
    refine (H2.out _).mono ?_
    rintro e w2 ⟨rfl, ho2⟩
    go_wp2_with fail
    refine (H3.out _).mono ?_
    rintro e w3 ⟨rfl, ho3⟩
    go_wp2_with fail
    refine (H4.out _).mono ?_
    rintro e w4 ⟨rfl, rfl⟩
    go_wp2_with fail
    refine (Or_any _ [c1, c2, c3, c4] _ (Nums.fresh _ 3 _)).mono ?_
    rintro e w5 ⟨rfl, rfl⟩
    go_wp2_with fail
    go_ret
    exact ⟨by rw [Hs.out]; rfl, ((ho1.trans ho2).trans ho3).alloc _⟩
end Go.Proofs.YtpifkinlaicliaaGreatDoor
/-
  TEXT, THE DOCUMENT's, F: folded.
-/



namespace Go.Proofs.YtpifkinlaicliaaGreatDoor
open Go.RowKit
attribute [local go_sem] Old.refl Old.alloc Old.drew Old.setCell OldW.old

theorem encode_rune (r : Int) : Utf8.encode r = ⟨(Lib.encodeRune r).toArray⟩ := by
  have key : ∀ n : Nat, UInt8.ofNat n = ((n : Int)).toNat.toUInt8 := fun n => rfl
  unfold Lib.encodeRune
  by_cases h0 : 0 ≤ r ∧ r ≤ 1114111 ∧ ¬ (55296 ≤ r ∧ r ≤ 57343)
  · obtain ⟨n, rfl⟩ := Int.eq_ofNat_of_zero_le h0.1
    have hv : Utf8.valid (n : Int) = true := by simp [Utf8.valid]; omega
    unfold Utf8.encode
    rw [if_pos hv]
    simp only [Int.toNat_natCast]
    by_cases c1 : n < 128
    · rw [if_pos c1, Lib.encodeRuneZ_one (by omega) (by omega)]; rfl
    · rw [if_neg c1]
      by_cases c2 : n < 2048
      · rw [if_pos c2, Lib.encodeRuneZ_two (by omega) (by omega)]; rfl
      · rw [if_neg c2]
        by_cases c3 : n < 65536
        · rw [if_pos c3, Lib.encodeRuneZ_three (by omega)]; rfl
        · rw [if_neg c3, Lib.encodeRuneZ_four (by omega) (by omega)]; rfl
  · have hv : ¬ Utf8.valid r = true := by simp [Utf8.valid]; omega
    unfold Utf8.encode
    rw [if_neg hv, Lib.encodeRuneZ_bad (by omega)]
    rfl
def strB (t : List UInt8) : ByteArray := ⟨t.toArray⟩
theorem strB_app (t u : List UInt8) : strB t ++ strB u = strB (t ++ u) := by
  apply ByteArray.ext
  simp [strB]
theorem strB_size (t : List UInt8) : (strB t).size = t.length := by simp [strB, ByteArray.size]
theorem strB_empty (t : List UInt8) : (!(strB t).toList.isEmpty) = decide (0 < t.length) := by
  rw [ByteArray.toList_eq]
  show (!t.isEmpty) = _
  cases t <;> rfl
theorem extract_one (s : ByteArray) {p : Nat} (h : p < s.size) : s.extract p (p + 1) = strB [s.data.toList.getD p 0] := by
  apply ByteArray.ext
  apply Array.toList_inj.1
  rw [extract_list]
  have h' : p < s.data.toList.length := by rw [str_len]; exact h
  show _ = [s.data.toList.getD p 0]
  rw [List.getD_eq_getElem?_getD, List.getElem?_eq_getElem h']
  rw [List.take_succ_eq_append_getElem h', List.drop_append_of_le_length (by simp; omega), List.drop_eq_nil_of_le (by rw [List.length_take]; omega)]
  rfl
theorem chN_ascii {l : List UInt8} {p : Nat} (hp : p < l.length) (h : chR l p < 128) : chN l p = 1 := by
  have hne : l.drop p ≠ [] := by
    intro e
    have := congrArg List.length e
    simp at this; omega
  have he := Lib.encode_decode (l.drop p) hne (fun k => by unfold chR at h; omega)
  have hl := congrArg List.length he
  have hle := chN_le hp
  rw [List.length_take, List.length_drop] at hl
  unfold Lib.encodeRune at hl
  rw [Lib.encodeRuneZ_one (by omega) (by unfold chR at h; omega)] at hl
  unfold chN at hle ⊢
  simp at hl
  omega
set_option maxRecDepth 100000 in
set_option maxHeartbeats 6400000 in
theorem RFold_any (s : ByteArray) (w : World) (hs : s.size ≤ 4194304) :
    Calls Tryz.prog 37 #[.string s] w fun e w' => e = .returned (.string (foldS s)) ∧ Old w w' := by
  have Hc := Lib.hid (Chars_any s w (by omega))
  go_enter Tryz.func37, Tryz.ntmps37
  go_wp2_with (go_at_call 57; refine Hc.out.mono ?_; rintro e w1 ⟨⟨v1, rfl, hv1⟩, ho1⟩; obtain ⟨a, cap, b, off, rfl, hcap1, hcap2, ha, ht⟩ := hv1.recs)
  clear Hc hv1
  have Ha := Lib.hid ha
  have Ht := Lib.hid ht
  clear ha ht
  go_loopw [3, 4, 6] (fun x y j wr => ∃ (i p : Nat) (wt : Bool) (t : List UInt8), i ≤ (charsAt s.data.toList 0).length ∧ p ≤ s.size ∧ t.length ≤ 5 * p ∧ x = .string (strB t) ∧ y = .bool wt ∧ j = .int .i64 i ∧ Old w1 wr ∧ (charsAt s.data.toList 0).drop i = charsAt s.data.toList p ∧ foldGo s p wt t = foldB s) (fun _ _ j _ => (charsAt s.data.toList 0).length - (intOf j).toNat)
  case atStart => exact ⟨0, 0, false, [], Nat.zero_le _, Nat.zero_le _, Nat.zero_le _, rfl, rfl, rfl, Old.refl _, rfl, rfl⟩
  case round =>
    obtain ⟨i, p, wt, t, hi, hp, htp, rfl, rfl, rfl, ho, hdr, hat⟩ := hrel
    have Hat := Lib.hid hat
    have Hdr := Lib.hid hdr
    clear hat hdr
    by_cases hlt : i < (charsAt s.data.toList 0).length
    · obtain ⟨hpl, hget, hnext⟩ := chars_step Hdr.out hlt
      rw [str_len] at hpl
      have hn1 := chN_pos s.data.toList p
      have hn2 := chN_le (l := s.data.toList) (p := p) (by rw [str_len]; exact hpl)
      rw [str_len] at hn2
      have hr0 := chR_le s.data.toList p
      obtain rfl := Ha.out (by omega)
      have K := Recs.chr Ht.out hget
      have Hnext := Lib.hid hnext
      have k0 := fun V (o : Old wr V) => (K V (ho.trans o)).1
      have k1 := fun V (o : Old wr V) => (K V (ho.trans o)).2.1
      have k3 := fun V (o : Old wr V) => (K V (ho.trans o)).2.2.2
      clear K hget hnext Hdr
      dsimp only at k0 k1 k3
      have hi1 : (i : Int) < (charsAt s.data.toList 0).length := by omega
      generalize (charsAt s.data.toList 0).length = L at *
      by_cases h32 : chR s.data.toList p = 32
      · have Hon := Lib.hid (foldGo_sp hpl h32 wt t)
        have hn := chN_ascii (l := s.data.toList) (p := p) (by rw [str_len]; exact hpl) (by omega)
        rw [hn] at Hnext hn2
        have h32' : ((chR s.data.toList p : Int) == 32) = true := by rw [beq_iff_eq]; omega
        have Hem := Lib.hid (strB_empty t)
        clear hn h32
        go_wp2_with fail
        go_roundw
        case rel => exact ⟨i + 1, p + 1, decide (0 < t.length), t, by omega, by omega, by omega, rfl, congrArg Value.bool Hem.out, by go_num, ho, Hnext.out, by rw [← Hon.out]; exact Hat.out⟩
        case measure => simp [intOf]; omega
      · have Hon := Lib.hid (foldGo_on hpl h32 wt t)
        have h32' : ((chR s.data.toList p : Int) == 32) = false := by rw [beq_eq_false_iff_ne]; omega
        have Hfc := Lib.hid (show foldC s p = if badC s.data.toList p then [s.data.toList.getD p 0] else Lib.encodeRune (smallC (chR s.data.toList p)) from rfl)
        have Hby := Lib.hid (extract_one s hpl)
        have HSm := Lib.hid (fun V => RSmall_any (chR s.data.toList p) V (by omega))
        have hle4 := (Lib.encodeRuneZ_length (smallC (chR s.data.toList p)))
        have hl4 : (Lib.encodeRune (smallC (chR s.data.toList p))).length = (Lib.encodeRuneZ (smallC (chR s.data.toList p))).length := by simp [Lib.encodeRune]
        rw [← hl4] at hle4
        have Henc := Lib.hid (encode_rune (smallC (chR s.data.toList p)))
        clear h32 hl4
        generalize chR s.data.toList p = R at *
        generalize chN s.data.toList p = n at *
        generalize badC s.data.toList p = bd at *
        generalize smallC (R : Int) = sm at *
        generalize foldC s p = fc at *
        obtain ⟨q1, hq1⟩ : ∃ q1, q1 = p + 1 := ⟨_, rfl⟩
        rw [← hq1] at Hby
        have hp1 : (p : Int) + 1 = (q1 : Int) := by omega
        have hp2 : (q1 : Int) ≤ s.size := by omega
        have hp3 : (p : Int) ≤ (q1 : Int) := by omega
        have hp4 : p ≤ q1 ∧ q1 ≤ s.size := by omega
        clear hq1
        cases wt with
        | false =>
          cases bd with
          | false =>
            have Hfc' : Hid (fc = Lib.encodeRune sm) := by rw [Hfc.out]; rfl
            obtain ⟨S0, hS0⟩ : ∃ S0, S0 = strB t := ⟨_, rfl⟩
            rw [← hS0]
            have z0 : S0.size = t.length := by rw [hS0]; exact strB_size t
            have hcat0 : ¬ 9223372036854775807 < S0.size + 1 := by omega
            obtain ⟨X, hX⟩ : ∃ X, X = strB (Lib.encodeRune sm) := ⟨_, rfl⟩
            obtain ⟨V, hV⟩ : ∃ V, V = strB (t ++ Lib.encodeRune sm) := ⟨_, rfl⟩
            have E2 : S0 ++ X = V := by rw [hS0, hX, hV]; exact strB_app _ _
            have z2 : X.size = (Lib.encodeRune sm).length := by rw [hX, strB_size]
            have HV := Lib.hid hV
            have Hx : Utf8.encode sm = X := by rw [Henc.out, hX]; rfl
            have hcat1 : ¬ 9223372036854775807 < S0.size + X.size := by omega
            have hcat2 : ¬ 9223372036854775807 < S0.size + 1 := by omega
            clear hV hX hS0
            go_wp2_with (go_at_call 69; refine (HSm.out _).mono ?_; rintro e w2 ⟨rfl, rfl⟩)
            go_roundw
            case rel => exact ⟨i + 1, p + n, false, t ++ Lib.encodeRune sm, by omega, by omega, by simp; omega, congrArg Value.string HV.out, rfl, by go_num, ho, Hnext.out, by rw [← Hat.out, Hon.out, Hfc'.out]; rfl⟩
            case measure => simp [intOf]; omega
          | true =>
            have hby := Hby.out
            generalize s.data.toList.getD p 0 = bb at *
            have Hfc' : Hid (fc = [bb]) := by rw [Hfc.out]; rfl
            obtain ⟨S0, hS0⟩ : ∃ S0, S0 = strB t := ⟨_, rfl⟩
            rw [← hS0]
            have z0 : S0.size = t.length := by rw [hS0]; exact strB_size t
            have hcat0 : ¬ 9223372036854775807 < S0.size + 1 := by omega
            obtain ⟨X, hX⟩ : ∃ X, X = strB ([bb]) := ⟨_, rfl⟩
            obtain ⟨V, hV⟩ : ∃ V, V = strB (t ++ [bb]) := ⟨_, rfl⟩
            have E2 : S0 ++ X = V := by rw [hS0, hX, hV]; exact strB_app _ _
            have z2 : X.size = 1 := by rw [hX, strB_size]; rfl
            have HV := Lib.hid hV
            have Hx : s.extract p q1 = X := by rw [hby, hX]
            have hcat1 : ¬ 9223372036854775807 < S0.size + X.size := by omega
            have hcat2 : ¬ 9223372036854775807 < S0.size + 1 := by omega
            clear hV hX hS0 hby
            clear Hby
            go_upto_region 13 with fail
            refine wp_region_old (Old.refl _) (by kernel_rfl) (by kernel_rfl) ?_
            repeat (go_big_quiet_step (fail))
            refine wpQuiet_nil ?_
            rintro ⟨wv, hv⟩
            dsimp only
            go_wp2_with fail
            go_roundw
            case rel => exact ⟨i + 1, p + n, false, t ++ [bb], by omega, by omega, by simp; omega, congrArg Value.string HV.out, rfl, by go_num, ho.trans hv, Hnext.out, by rw [← Hat.out, Hon.out, Hfc'.out]; rfl⟩
            case measure => simp [intOf]; omega
        | true =>
          cases bd with
          | false =>
            have Hfc' : Hid (fc = Lib.encodeRune sm) := by rw [Hfc.out]; rfl
            obtain ⟨S0, hS0⟩ : ∃ S0, S0 = strB t := ⟨_, rfl⟩
            rw [← hS0]
            have z0 : S0.size = t.length := by rw [hS0]; exact strB_size t
            have hcat0 : ¬ 9223372036854775807 < S0.size + 1 := by omega
            obtain ⟨U, hU⟩ : ∃ U, U = strB (t ++ [32]) := ⟨_, rfl⟩
            have E1 : S0 ++ ⟨#[32]⟩ = U := by rw [hS0, hU]; exact strB_app t [32]
            have z1 : U.size = t.length + 1 := by rw [hU, strB_size]; simp
            obtain ⟨X, hX⟩ : ∃ X, X = strB (Lib.encodeRune sm) := ⟨_, rfl⟩
            obtain ⟨V, hV⟩ : ∃ V, V = strB (t ++ [32] ++ Lib.encodeRune sm) := ⟨_, rfl⟩
            have E2 : U ++ X = V := by rw [hU, hX, hV]; exact strB_app _ _
            have z2 : X.size = (Lib.encodeRune sm).length := by rw [hX, strB_size]
            have HV := Lib.hid hV
            have Hx : Utf8.encode sm = X := by rw [Henc.out, hX]; rfl
            have hcat1 : ¬ 9223372036854775807 < U.size + X.size := by omega
            have hcat2 : ¬ 9223372036854775807 < U.size + 1 := by omega
            clear hV hX hS0 hU
            go_wp2_with (go_at_call 69; refine (HSm.out _).mono ?_; rintro e w2 ⟨rfl, rfl⟩)
            go_roundw
            case rel => exact ⟨i + 1, p + n, false, t ++ [32] ++ Lib.encodeRune sm, by omega, by omega, by simp; omega, congrArg Value.string HV.out, rfl, by go_num, ho, Hnext.out, by rw [← Hat.out, Hon.out, Hfc'.out]; rfl⟩
            case measure => simp [intOf]; omega
          | true =>
            have hby := Hby.out
            generalize s.data.toList.getD p 0 = bb at *
            have Hfc' : Hid (fc = [bb]) := by rw [Hfc.out]; rfl
            obtain ⟨S0, hS0⟩ : ∃ S0, S0 = strB t := ⟨_, rfl⟩
            rw [← hS0]
            have z0 : S0.size = t.length := by rw [hS0]; exact strB_size t
            have hcat0 : ¬ 9223372036854775807 < S0.size + 1 := by omega
            obtain ⟨U, hU⟩ : ∃ U, U = strB (t ++ [32]) := ⟨_, rfl⟩
            have E1 : S0 ++ ⟨#[32]⟩ = U := by rw [hS0, hU]; exact strB_app t [32]
            have z1 : U.size = t.length + 1 := by rw [hU, strB_size]; simp
            obtain ⟨X, hX⟩ : ∃ X, X = strB ([bb]) := ⟨_, rfl⟩
            obtain ⟨V, hV⟩ : ∃ V, V = strB (t ++ [32] ++ [bb]) := ⟨_, rfl⟩
            have E2 : U ++ X = V := by rw [hU, hX, hV]; exact strB_app _ _
            have z2 : X.size = 1 := by rw [hX, strB_size]; rfl
            have HV := Lib.hid hV
            have Hx : s.extract p q1 = X := by rw [hby, hX]
            have hcat1 : ¬ 9223372036854775807 < U.size + X.size := by omega
            have hcat2 : ¬ 9223372036854775807 < U.size + 1 := by omega
            clear hV hX hS0 hU hby
            clear Hby
            go_upto_region 13 with fail
            refine wp_region_old (Old.refl _) (by kernel_rfl) (by kernel_rfl) ?_
            repeat (go_big_quiet_step (fail))
            refine wpQuiet_nil ?_
            rintro ⟨wv, hv⟩
            dsimp only
            go_wp2_with fail
            go_roundw
            case rel => exact ⟨i + 1, p + n, false, t ++ [32] ++ [bb], by omega, by omega, by simp; omega, congrArg Value.string HV.out, rfl, by go_num, ho.trans hv, Hnext.out, by rw [← Hat.out, Hon.out, Hfc'.out]; rfl⟩
            case measure => simp [intOf]; omega
    · have hend := chars_done Hdr.out hlt
      have Hend := Lib.hid (foldGo_end (s := s) (p := p) (by rw [str_len] at hend; exact hend) wt t)
      have hi1 : ¬ (i : Int) < (charsAt s.data.toList 0).length := by omega
      generalize (charsAt s.data.toList 0).length = L at *
      go_wp2_with fail
      go_ret
      exact ⟨by unfold foldS; rw [← Hat.out, Hend.out]; rfl, ho1.trans ho⟩
end Go.Proofs.YtpifkinlaicliaaGreatDoor
