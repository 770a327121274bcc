/-
  TEXT, THE DOCUMENT's, B: cells, how wide.
-/
import Derived.Test.YtohngjkedhpikaaGreatDoorZTextWords
import Derived.Test.YtohngjkedhpikaaGreatDoorZTextCodesD
import Derived.Test.YtohngjkedhpikaaGreatDoorZTextRefA
import Derived.BigQuiet
import Derived.Deep.DeepCutAuto
import Derived.Test.YtohngjkedhpikaaGreatDoorZTocFault
import Derived.Test.YtohngjkedhpikaaGreatDoorZBuilder
import Derived.Test.YtohngjkedhpikaaGreatDoorZNums
import Derived.Lib.TrimAscii
namespace Go.Proofs.YtohngjkedhpikaaGreatDoor
open Go.RowKit
attribute [local go_sem] Old.refl Old.alloc Old.drew Old.setCell OldW.old
/-- what a character's cells say in every later world -/
theorem Recs.chr {w : World} {b off i : Nat} {t : List Chr} (ht : ∀ j u, (chE.all t)[j]? = some u → ∀ W, Old w W → W.cell? ⟨b, off + j, none⟩ = some u) {x : Chr} (hx : t[i]? = some x) :
    ∀ V, Old w V → V.cell? ⟨b, off + i * 4, none⟩ = some (.int .i32 x.r) ∧ V.cell? ⟨b, off + i * 4 + 1, none⟩ = some (.int .i64 x.at') ∧ V.cell? ⟨b, off + i * 4 + 2, none⟩ = some (.int .i64 x.n) ∧ V.cell? ⟨b, off + i * 4 + 3, none⟩ = some (.bool x.bad) := fun V o => by
  have h0 := ht (i * 4 + 0) _ (Enc.all_at (c := chE) (j := 0) hx rfl) V o
  have h1 := ht (i * 4 + 1) _ (Enc.all_at (c := chE) (j := 1) hx rfl) V o
  have h2 := ht (i * 4 + 2) _ (Enc.all_at (c := chE) (j := 2) hx rfl) V o
  have h3 := ht (i * 4 + 3) _ (Enc.all_at (c := chE) (j := 3) hx rfl) V o
  rw [← Nat.add_assoc] at h1 h2 h3
  exact ⟨h0, h1, h2, h3⟩
/-- the characters that are left begin at p -/
theorem chars_step {l : List UInt8} {i p : Nat} (h : (charsAt l 0).drop i = charsAt l p) (hi : i < (charsAt l 0).length) :
    p < l.length ∧ (charsAt l 0)[i]? = some ⟨chR l p, p, chN l p, badC l p⟩ ∧ (charsAt l 0).drop (i + 1) = charsAt l (p + chN l p) := by
  have hp : p < l.length := by
    by_cases k : p < l.length
    · exact k
    · rw [charsAt_end k] at h
      have := congrArg List.length h
      simp at this; omega
  rw [charsAt_on hp, List.drop_eq_getElem_cons hi] at h
  have h1 := (List.cons.inj h).1
  exact ⟨hp, by rw [List.getElem?_eq_getElem hi, h1], (List.cons.inj h).2⟩
theorem chars_done {l : List UInt8} {i p : Nat} (h : (charsAt l 0).drop i = charsAt l p) (hi : ¬ i < (charsAt l 0).length) : ¬ p < l.length := fun k => by
  rw [charsAt_on k, List.drop_eq_nil_of_le (by omega)] at h
  cases h
end Go.Proofs.YtohngjkedhpikaaGreatDoor
/-
  TEXT, THE DOCUMENT's, F: folded.
-/



namespace Go.Proofs.YtohngjkedhpikaaGreatDoor
open Go.RowKit
attribute [local go_sem] Old.refl Old.alloc Old.drew Old.setCell OldW.old

theorem encode_rune (r : Int) : Utf8.encode r = ⟨(Lib.encodeRune r).toArray⟩ := by
  have key : ∀ n : Nat, UInt8.ofNat n = ((n : Int)).toNat.toUInt8 := fun n => rfl
  unfold Lib.encodeRune
  by_cases h0 : 0 ≤ r ∧ r ≤ 1114111 ∧ ¬ (55296 ≤ r ∧ r ≤ 57343)
  · obtain ⟨n, rfl⟩ := Int.eq_ofNat_of_zero_le h0.1
    have hv : Utf8.valid (n : Int) = true := by simp [Utf8.valid]; omega
    unfold Utf8.encode
    rw [if_pos hv]
    simp only [Int.toNat_natCast]
    by_cases c1 : n < 128
    · rw [if_pos c1, Lib.encodeRuneZ_one (by omega) (by omega)]; rfl
    · rw [if_neg c1]
      by_cases c2 : n < 2048
      · rw [if_pos c2, Lib.encodeRuneZ_two (by omega) (by omega)]; rfl
      · rw [if_neg c2]
        by_cases c3 : n < 65536
        · rw [if_pos c3, Lib.encodeRuneZ_three (by omega)]; rfl
        · rw [if_neg c3, Lib.encodeRuneZ_four (by omega) (by omega)]; rfl
  · have hv : ¬ Utf8.valid r = true := by simp [Utf8.valid]; omega
    unfold Utf8.encode
    rw [if_neg hv, Lib.encodeRuneZ_bad (by omega)]
    rfl
def strB (t : List UInt8) : ByteArray := ⟨t.toArray⟩
theorem strB_app (t u : List UInt8) : strB t ++ strB u = strB (t ++ u) := by
  apply ByteArray.ext
  simp [strB]
theorem strB_size (t : List UInt8) : (strB t).size = t.length := by simp [strB, ByteArray.size]
theorem strB_empty (t : List UInt8) : (!(strB t).toList.isEmpty) = decide (0 < t.length) := by
  rw [ByteArray.toList_eq]
  show (!t.isEmpty) = _
  cases t <;> rfl
theorem extract_one (s : ByteArray) {p : Nat} (h : p < s.size) : s.extract p (p + 1) = strB [s.data.toList.getD p 0] := by
  apply ByteArray.ext
  apply Array.toList_inj.1
  rw [extract_list]
  have h' : p < s.data.toList.length := by rw [str_len]; exact h
  show _ = [s.data.toList.getD p 0]
  rw [List.getD_eq_getElem?_getD, List.getElem?_eq_getElem h']
  rw [List.take_succ_eq_append_getElem h', List.drop_append_of_le_length (by simp; omega), List.drop_eq_nil_of_le (by rw [List.length_take]; omega)]
  rfl
theorem chN_ascii {l : List UInt8} {p : Nat} (hp : p < l.length) (h : chR l p < 128) : chN l p = 1 := by
  have hne : l.drop p ≠ [] := by
    intro e
    have := congrArg List.length e
    simp at this; omega
  have he := Lib.encode_decode (l.drop p) hne (fun k => by unfold chR at h; omega)
  have hl := congrArg List.length he
  have hle := chN_le hp
  rw [List.length_take, List.length_drop] at hl
  unfold Lib.encodeRune at hl
  rw [Lib.encodeRuneZ_one (by omega) (by unfold chR at h; omega)] at hl
  unfold chN at hle ⊢
  simp at hl
  omega
set_option maxRecDepth 100000 in
set_option maxHeartbeats 6400000 in
theorem RFold_any (s : ByteArray) (w : World) (hs : s.size ≤ 4194304) :
    Calls Tryz.prog 12 #[.string s] w fun e w' => e = .returned (.string (foldS s)) ∧ Old w w' := by
  have Hc := Lib.hid (Chars_any s w (by omega))
  go_enter Tryz.func12, Tryz.ntmps12
  go_wp2_with (go_at_call 49; refine Hc.out.mono ?_; rintro e w1 ⟨⟨v1, rfl, hv1⟩, ho1⟩; obtain ⟨a, cap, b, off, rfl, hcap1, hcap2, ha, ht⟩ := hv1.recs)
  clear Hc hv1
  have Ha := Lib.hid ha
  have Ht := Lib.hid ht
  clear ha ht
  go_loopw [3, 4, 6] (fun x y j wr => ∃ (i p : Nat) (wt : Bool) (t : List UInt8), i ≤ (charsAt s.data.toList 0).length ∧ p ≤ s.size ∧ t.length ≤ 5 * p ∧ x = .string (strB t) ∧ y = .bool wt ∧ j = .int .i64 i ∧ Old w1 wr ∧ (charsAt s.data.toList 0).drop i = charsAt s.data.toList p ∧ foldGo s p wt t = foldB s) (fun _ _ j _ => (charsAt s.data.toList 0).length - (intOf j).toNat)
  case atStart => exact ⟨0, 0, false, [], Nat.zero_le _, Nat.zero_le _, Nat.zero_le _, rfl, rfl, rfl, Old.refl _, rfl, rfl⟩
  case round =>
    obtain ⟨i, p, wt, t, hi, hp, htp, rfl, rfl, rfl, ho, hdr, hat⟩ := hrel
    have Hat := Lib.hid hat
    have Hdr := Lib.hid hdr
    clear hat hdr
    by_cases hlt : i < (charsAt s.data.toList 0).length
    · obtain ⟨hpl, hget, hnext⟩ := chars_step Hdr.out hlt
      rw [str_len] at hpl
      have hn1 := chN_pos s.data.toList p
      have hn2 := chN_le (l := s.data.toList) (p := p) (by rw [str_len]; exact hpl)
      rw [str_len] at hn2
      have hr0 := chR_le s.data.toList p
      obtain rfl := Ha.out (by omega)
      have K := Recs.chr Ht.out hget
      have Hnext := Lib.hid hnext
      have k0 := fun V (o : Old wr V) => (K V (ho.trans o)).1
      have k1 := fun V (o : Old wr V) => (K V (ho.trans o)).2.1
      have k3 := fun V (o : Old wr V) => (K V (ho.trans o)).2.2.2
      clear K hget hnext Hdr
      dsimp only at k0 k1 k3
      have hi1 : (i : Int) < (charsAt s.data.toList 0).length := by omega
      generalize (charsAt s.data.toList 0).length = L at *
      by_cases h32 : chR s.data.toList p = 32
      · have Hon := Lib.hid (foldGo_sp hpl h32 wt t)
        have hn := chN_ascii (l := s.data.toList) (p := p) (by rw [str_len]; exact hpl) (by omega)
        rw [hn] at Hnext hn2
        have h32' : ((chR s.data.toList p : Int) == 32) = true := by rw [beq_iff_eq]; omega
        have Hem := Lib.hid (strB_empty t)
        clear hn h32
        go_wp2_with fail
        go_roundw
        case rel => exact ⟨i + 1, p + 1, decide (0 < t.length), t, by omega, by omega, by omega, rfl, congrArg Value.bool Hem.out, by go_num, ho, Hnext.out, by rw [← Hon.out]; exact Hat.out⟩
        case measure => simp [intOf]; omega
      · have Hon := Lib.hid (foldGo_on hpl h32 wt t)
        have h32' : ((chR s.data.toList p : Int) == 32) = false := by rw [beq_eq_false_iff_ne]; omega
        have Hfc := Lib.hid (show foldC s p = if badC s.data.toList p then [s.data.toList.getD p 0] else Lib.encodeRune (smallC (chR s.data.toList p)) from rfl)
        have Hby := Lib.hid (extract_one s hpl)
        have HSm := Lib.hid (fun V => RSmall_any (chR s.data.toList p) V (by omega))
        have hle4 := (Lib.encodeRuneZ_length (smallC (chR s.data.toList p)))
        have hl4 : (Lib.encodeRune (smallC (chR s.data.toList p))).length = (Lib.encodeRuneZ (smallC (chR s.data.toList p))).length := by simp [Lib.encodeRune]
        rw [← hl4] at hle4
        have Henc := Lib.hid (encode_rune (smallC (chR s.data.toList p)))
        clear h32 hl4
        generalize chR s.data.toList p = R at *
        generalize chN s.data.toList p = n at *
        generalize badC s.data.toList p = bd at *
        generalize smallC (R : Int) = sm at *
        generalize foldC s p = fc at *
        obtain ⟨q1, hq1⟩ : ∃ q1, q1 = p + 1 := ⟨_, rfl⟩
        rw [← hq1] at Hby
        have hp1 : (p : Int) + 1 = (q1 : Int) := by omega
        have hp2 : (q1 : Int) ≤ s.size := by omega
        have hp3 : (p : Int) ≤ (q1 : Int) := by omega
        have hp4 : p ≤ q1 ∧ q1 ≤ s.size := by omega
        clear hq1
        cases wt with
        | false =>
          cases bd with
          | false =>
            have Hfc' : Hid (fc = Lib.encodeRune sm) := by rw [Hfc.out]; rfl
            obtain ⟨S0, hS0⟩ : ∃ S0, S0 = strB t := ⟨_, rfl⟩
            rw [← hS0]
            have z0 : S0.size = t.length := by rw [hS0]; exact strB_size t
            have hcat0 : ¬ 9223372036854775807 < S0.size + 1 := by omega
            obtain ⟨X, hX⟩ : ∃ X, X = strB (Lib.encodeRune sm) := ⟨_, rfl⟩
            obtain ⟨V, hV⟩ : ∃ V, V = strB (t ++ Lib.encodeRune sm) := ⟨_, rfl⟩
            have E2 : S0 ++ X = V := by rw [hS0, hX, hV]; exact strB_app _ _
            have z2 : X.size = (Lib.encodeRune sm).length := by rw [hX, strB_size]
            have HV := Lib.hid hV
            have Hx : Utf8.encode sm = X := by rw [Henc.out, hX]; rfl
            have hcat1 : ¬ 9223372036854775807 < S0.size + X.size := by omega
            have hcat2 : ¬ 9223372036854775807 < S0.size + 1 := by omega
            clear hV hX hS0
            go_wp2_with (go_at_call 50; refine (HSm.out _).mono ?_; rintro e w2 ⟨rfl, rfl⟩)
            go_roundw
            case rel => exact ⟨i + 1, p + n, false, t ++ Lib.encodeRune sm, by omega, by omega, by simp; omega, congrArg Value.string HV.out, rfl, by go_num, ho, Hnext.out, by rw [← Hat.out, Hon.out, Hfc'.out]; rfl⟩
            case measure => simp [intOf]; omega
          | true =>
            have hby := Hby.out
            generalize s.data.toList.getD p 0 = bb at *
            have Hfc' : Hid (fc = [bb]) := by rw [Hfc.out]; rfl
            obtain ⟨S0, hS0⟩ : ∃ S0, S0 = strB t := ⟨_, rfl⟩
            rw [← hS0]
            have z0 : S0.size = t.length := by rw [hS0]; exact strB_size t
            have hcat0 : ¬ 9223372036854775807 < S0.size + 1 := by omega
            obtain ⟨X, hX⟩ : ∃ X, X = strB ([bb]) := ⟨_, rfl⟩
            obtain ⟨V, hV⟩ : ∃ V, V = strB (t ++ [bb]) := ⟨_, rfl⟩
            have E2 : S0 ++ X = V := by rw [hS0, hX, hV]; exact strB_app _ _
            have z2 : X.size = 1 := by rw [hX, strB_size]; rfl
            have HV := Lib.hid hV
            have Hx : s.extract p q1 = X := by rw [hby, hX]
            have hcat1 : ¬ 9223372036854775807 < S0.size + X.size := by omega
            have hcat2 : ¬ 9223372036854775807 < S0.size + 1 := by omega
            clear hV hX hS0 hby
            clear Hby
            go_upto_region 13 with fail
            refine wp_region_old (Old.refl _) (by kernel_rfl) (by kernel_rfl) ?_
            repeat (go_big_quiet_step (fail))
            refine wpQuiet_nil ?_
            rintro ⟨wv, hv⟩
            dsimp only
            go_wp2_with fail
            go_roundw
            case rel => exact ⟨i + 1, p + n, false, t ++ [bb], by omega, by omega, by simp; omega, congrArg Value.string HV.out, rfl, by go_num, ho.trans hv, Hnext.out, by rw [← Hat.out, Hon.out, Hfc'.out]; rfl⟩
            case measure => simp [intOf]; omega
        | true =>
          cases bd with
          | false =>
            have Hfc' : Hid (fc = Lib.encodeRune sm) := by rw [Hfc.out]; rfl
            obtain ⟨S0, hS0⟩ : ∃ S0, S0 = strB t := ⟨_, rfl⟩
            rw [← hS0]
            have z0 : S0.size = t.length := by rw [hS0]; exact strB_size t
            have hcat0 : ¬ 9223372036854775807 < S0.size + 1 := by omega
            obtain ⟨U, hU⟩ : ∃ U, U = strB (t ++ [32]) := ⟨_, rfl⟩
            have E1 : S0 ++ ⟨#[32]⟩ = U := by rw [hS0, hU]; exact strB_app t [32]
            have z1 : U.size = t.length + 1 := by rw [hU, strB_size]; simp
            obtain ⟨X, hX⟩ : ∃ X, X = strB (Lib.encodeRune sm) := ⟨_, rfl⟩
            obtain ⟨V, hV⟩ : ∃ V, V = strB (t ++ [32] ++ Lib.encodeRune sm) := ⟨_, rfl⟩
            have E2 : U ++ X = V := by rw [hU, hX, hV]; exact strB_app _ _
            have z2 : X.size = (Lib.encodeRune sm).length := by rw [hX, strB_size]
            have HV := Lib.hid hV
            have Hx : Utf8.encode sm = X := by rw [Henc.out, hX]; rfl
            have hcat1 : ¬ 9223372036854775807 < U.size + X.size := by omega
            have hcat2 : ¬ 9223372036854775807 < U.size + 1 := by omega
            clear hV hX hS0 hU
            go_wp2_with (go_at_call 50; refine (HSm.out _).mono ?_; rintro e w2 ⟨rfl, rfl⟩)
            go_roundw
            case rel => exact ⟨i + 1, p + n, false, t ++ [32] ++ Lib.encodeRune sm, by omega, by omega, by simp; omega, congrArg Value.string HV.out, rfl, by go_num, ho, Hnext.out, by rw [← Hat.out, Hon.out, Hfc'.out]; rfl⟩
            case measure => simp [intOf]; omega
          | true =>
            have hby := Hby.out
            generalize s.data.toList.getD p 0 = bb at *
            have Hfc' : Hid (fc = [bb]) := by rw [Hfc.out]; rfl
            obtain ⟨S0, hS0⟩ : ∃ S0, S0 = strB t := ⟨_, rfl⟩
            rw [← hS0]
            have z0 : S0.size = t.length := by rw [hS0]; exact strB_size t
            have hcat0 : ¬ 9223372036854775807 < S0.size + 1 := by omega
            obtain ⟨U, hU⟩ : ∃ U, U = strB (t ++ [32]) := ⟨_, rfl⟩
            have E1 : S0 ++ ⟨#[32]⟩ = U := by rw [hS0, hU]; exact strB_app t [32]
            have z1 : U.size = t.length + 1 := by rw [hU, strB_size]; simp
            obtain ⟨X, hX⟩ : ∃ X, X = strB ([bb]) := ⟨_, rfl⟩
            obtain ⟨V, hV⟩ : ∃ V, V = strB (t ++ [32] ++ [bb]) := ⟨_, rfl⟩
            have E2 : U ++ X = V := by rw [hU, hX, hV]; exact strB_app _ _
            have z2 : X.size = 1 := by rw [hX, strB_size]; rfl
            have HV := Lib.hid hV
            have Hx : s.extract p q1 = X := by rw [hby, hX]
            have hcat1 : ¬ 9223372036854775807 < U.size + X.size := by omega
            have hcat2 : ¬ 9223372036854775807 < U.size + 1 := by omega
            clear hV hX hS0 hU hby
            clear Hby
            go_upto_region 13 with fail
            refine wp_region_old (Old.refl _) (by kernel_rfl) (by kernel_rfl) ?_
            repeat (go_big_quiet_step (fail))
            refine wpQuiet_nil ?_
            rintro ⟨wv, hv⟩
            dsimp only
            go_wp2_with fail
            go_roundw
            case rel => exact ⟨i + 1, p + n, false, t ++ [32] ++ [bb], by omega, by omega, by simp; omega, congrArg Value.string HV.out, rfl, by go_num, ho.trans hv, Hnext.out, by rw [← Hat.out, Hon.out, Hfc'.out]; rfl⟩
            case measure => simp [intOf]; omega
    · have hend := chars_done Hdr.out hlt
      have Hend := Lib.hid (foldGo_end (s := s) (p := p) (by rw [str_len] at hend; exact hend) wt t)
      have hi1 : ¬ (i : Int) < (charsAt s.data.toList 0).length := by omega
      generalize (charsAt s.data.toList 0).length = L at *
      go_wp2_with fail
      go_ret
      exact ⟨by unfold foldS; rw [← Hat.out, Hend.out]; rfl, ho1.trans ho⟩
end Go.Proofs.YtohngjkedhpikaaGreatDoor
/-
  TEXT, DIGITS: digits among bytes and among characters, over no program.
-/



namespace Go.Proofs.YtohngjkedhpikaaGreatDoor
open Go.RowKit

theorem drop_cons {l : List UInt8} {p : Nat} (hp : p < l.length) : l.drop p = l.getD p 0 :: l.drop (p + 1) := by
  rw [List.drop_eq_getElem_cons hp, List.getD_eq_getElem?_getD, List.getElem?_eq_getElem hp]; rfl
/-- a byte below 128 is a character -/
theorem chR_byte {l : List UInt8} {p : Nat} (hp : p < l.length) (h : (l.getD p 0).toNat < 128) : chR l p = (l.getD p 0).toNat ∧ chN l p = 1 := by
  unfold chR chN
  rw [drop_cons hp, Lib.decodeL_ascii _ _ h]
  exact ⟨rfl, rfl⟩
/-- a character below 128 is a byte -/
theorem chR_small {l : List UInt8} {p : Nat} (hp : p < l.length) (h : chR l p < 128) : (l.getD p 0).toNat = chR l p := by
  have hne : l.drop p ≠ [] := by
    intro e
    have := congrArg List.length e
    simp at this; omega
  have he : Lib.encodeRune (chR l p : Int) = (l.drop p).take (chN l p) := Lib.encode_decode (l.drop p) hne (fun k => by unfold chR at h; omega)
  rw [chN_ascii hp h] at he
  generalize chR l p = r at *
  unfold Lib.encodeRune at he
  rw [Lib.encodeRuneZ_one (by omega) (by omega), drop_cons hp] at he
  simp at he
  rw [List.getD_eq_getElem?_getD, ← he]
  simp
  omega
theorem digit_iff {l : List UInt8} {p : Nat} (hp : p < l.length) : inR (chR l p) 48 57 = isDg (l.getD p 0) := by
  rw [Bool.eq_iff_iff, inR_iff]
  unfold isDg
  simp only [Bool.and_eq_true, decide_eq_true_eq]
  constructor
  · rintro ⟨h1, h2⟩
    have := chR_small hp (by omega)
    omega
  · rintro ⟨h1, h2⟩
    have := (chR_byte hp (by omega)).1
    omega
theorem dgN_cons (b : UInt8) (l : List UInt8) : dgN (b :: l) = if isDg b then dgN l + 1 else 0 := by
  unfold dgN
  rw [List.takeWhile_cons]
  split <;> simp
theorem dgAt_on {s : ByteArray} {p : Nat} (hp : p < s.size) (h : isDg (s.data.toList.getD p 0) = true) : dgAt s p = dgAt s (p + 1) + 1 := by
  unfold dgAt
  rw [drop_cons (by rw [str_len]; exact hp), dgN_cons, if_pos h]
theorem dgAt_off {s : ByteArray} {p : Nat} (hp : p < s.size) (h : isDg (s.data.toList.getD p 0) = false) : dgAt s p = 0 := by
  unfold dgAt
  rw [drop_cons (by rw [str_len]; exact hp), dgN_cons, if_neg (by rw [h]; decide)]
theorem dgAt_end {s : ByteArray} {p : Nat} (hp : ¬ p < s.size) : dgAt s p = 0 := by
  unfold dgAt
  rw [List.drop_eq_nil_of_le (by rw [str_len]; omega)]; rfl
/-- the digits from p to q without noughts ahead, as bytes -/
def trimL (s : ByteArray) (p q : Nat) : List UInt8 := Lib.trimLeftB (s.extract p q).data.toList 48
theorem trimL_zero (s : ByteArray) (p : Nat) : trimL s p p = [] := by
  unfold trimL
  rw [extract_list, List.drop_eq_nil_of_le (by rw [List.length_take]; omega)]; rfl
theorem trimL_succ {s : ByteArray} {p q : Nat} (hpq : p ≤ q) (hq : q < s.size) :
    trimL s p (q + 1) = if trimL s p q = [] ∧ s.data.toList.getD q 0 = 48 then [] else trimL s p q ++ [s.data.toList.getD q 0] := by
  have h' : q < s.data.toList.length := by rw [str_len]; exact hq
  have he : (s.extract p (q + 1)).data.toList = (s.extract p q).data.toList ++ [s.data.toList.getD q 0] := by
    rw [extract_list, extract_list, List.take_succ_eq_append_getElem h', List.drop_append_of_le_length (by rw [List.length_take]; omega), List.getD_eq_getElem?_getD, List.getElem?_eq_getElem h']
    rfl
  unfold trimL Lib.trimLeftB
  rw [he, List.dropWhile_append]
  by_cases h : ((s.extract p q).data.toList.dropWhile (· == 48)).isEmpty = true
  · rw [if_pos h]
    have h0 : (s.extract p q).data.toList.dropWhile (· == 48) = [] := List.isEmpty_iff.1 h
    rw [h0]
    by_cases k : s.data.toList.getD q 0 = 48
    · rw [if_pos ⟨rfl, k⟩, k]; rfl
    · rw [if_neg (fun x => k x.2)]
      rw [List.dropWhile_cons, if_neg (by simpa using k)]; rfl
  · rw [if_neg h, if_neg (fun x => h (by rw [x.1]; rfl))]
theorem trimN_eq (s : ByteArray) (p q : Nat) : trimN s p q = strB (trimL s p q) := rfl
end Go.Proofs.YtohngjkedhpikaaGreatDoor
