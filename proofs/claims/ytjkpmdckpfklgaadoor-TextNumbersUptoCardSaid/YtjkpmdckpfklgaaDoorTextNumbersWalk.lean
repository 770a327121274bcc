/-
  TextNumbers: the walk of the statement.
-/
import Derived.Test.YtjkpmdckpfklgaaDoorTextAwake
import Derived.Test.YtjkpmdckpfklgaaDoorTextDec
import Derived.Test.YtjkpmdckpfklgaaDoorTextRefB
import Derived.Test.YtjkpmdckpfklgaaDoorTextCompare4
namespace Go.Proofs.YtjkpmdckpfklgaaDoor
open Go.RowKit
attribute [local go_sem] Old.refl Old.alloc Old.drew Old.setCell OldW.old
/-- what the last character says -/
theorem head_cases (l : List UInt8) : charsAt l 0 = [] ∧ noDg l ∨ ∃ k x, (charsAt l 0).length = k + 1 ∧ (charsAt l 0)[k]? = some x ∧ x.r ≤ 1114111 ∧ (¬ (48 ≤ x.r ∧ x.r ≤ 57) → noDg l) := by
  by_cases h : 0 < l.length
  · right
    have hp : 0 < (charsAt l 0).length := by rw [charsAt_on h]; simp
    obtain ⟨x, hx⟩ : ∃ x, (charsAt l 0)[(charsAt l 0).length - 1]? = some x := ⟨_, List.getElem?_eq_getElem (by omega)⟩
    exact ⟨(charsAt l 0).length - 1, x, by omega, hx, (by rw [(charsAt_get _ 0 x hx).2.2.1]; exact chR_le _ _), fun hn => last_noDg (x := x) (by rw [List.getLast?_eq_getElem?]; exact hx) hn⟩
  · left
    obtain rfl : l = [] := List.eq_nil_of_length_eq_zero (by omega)
    exact ⟨charsAt_end (by simp), fun b hb => by cases hb⟩
theorem first_byte {t : ByteArray} (h : 0 < t.size) {x : UInt8} (hx : t.data.toList.head? = some x) : x = t[0]'h := by
  have e := byte_get t h
  rw [List.getD_eq_getElem?_getD, ← List.head?_eq_getElem?, hx] at e
  exact e.symm
theorem no_byte {t : ByteArray} (h : ¬ 0 < t.size) {x : UInt8} (hx : t.data.toList.head? = some x) : False := by
  rw [show t.data.toList = [] from List.eq_nil_of_length_eq_zero (by rw [str_len]; omega)] at hx
  cases hx
theorem isDg_no {x : UInt8} (h : (x.toNat : Int) < 48 ∨ 57 < (x.toNat : Int)) : isDg x = false := by
  unfold isDg
  simp; omega
theorem tail_empty {t : ByteArray} (h : ¬ 0 < t.size) : t.toList.isEmpty = true := by
  rw [ByteArray.toList_eq, show t.data.toList = [] from List.eq_nil_of_length_eq_zero (by rw [str_len]; omega)]; rfl
theorem tail_some {t : ByteArray} (h : 0 < t.size) : t.toList.isEmpty = false := by
  rw [ByteArray.toList_eq]
  cases e : t.data.toList
  · have := str_len t
    rw [e] at this
    simp at this; omega
  · rfl
set_option maxRecDepth 100000 in
set_option maxHeartbeats 3200000 in
theorem textNumbers_row_walk (W : World) (hT : Tabs W) (h : ByteArray) (_ : h.size ≤ 9223372036854775807) (yh : h.size ≤ 1048576) (t : ByteArray) (_ : t.size ≤ 9223372036854775807) (yt : t.size ≤ 1048576)
    (m : Nat) (zm : m ≤ 18446744073709551615) (n : Nat) (zn : n ≤ 18446744073709551615) (z : Int) (_ : -9223372036854775808 ≤ z ∧ z ≤ 9223372036854775807) :
    Calls Tryd.prog 11 #[.string h, .string t, .int .u64 m, .int .u64 n, .int .i64 z] W fun e w' => e = .returned (.bool true) ∧ Old W w' := by
  have H0 := Lib.hid (fun V (o : Old W V) => awake_any V (hT.old o))
  have HC := Lib.hid (fun V => Chars_any h V (by omega))
  have hh := head_cases h.data.toList
  have hln := charsAt_len (l := h.data.toList) (h.data.toList.length - 0) 0 rfl
  rw [str_len] at hln
  go_enter Tryd.func11, Tryd.ntmps11
  go_wp2_with fail
  refine (H0.out _ (Old.refl W)).mono ?_
  rintro e w1 ⟨rfl, ho1⟩
  go_wp2_with fail
  refine (HC.out _).mono ?_
  rintro e w2 ⟨⟨v2, rfl, hv2⟩, ho2⟩
  have o2 := ho1.trans ho2
  obtain ⟨a1, cap1, b1, off1, rfl, hc11, hc12, ha1, ht1⟩ := hv2.recs
  generalize hL : charsAt h.data.toList 0 = L at *
  generalize hq : L.length = q at hc11 ha1 hh hln ⊢
  have Hq := Lib.hid hq
  clear hL hq
  go_upto_region 4 with fail
  go_cut [53] from 17 to 53 (fun v wx => (∃ g : Bool, v = .bool g ∧ (g = false → noDg h.data.toList ∧ ∀ x, t.data.toList.head? = some x → isDg x = false)) ∧ w2 = wx)
  case' first =>
    rcases hh with ⟨hn, hg⟩ | ⟨k, x, hk, hx, hr, hg⟩
    · obtain rfl : q = 0 := by rw [← Hq.out, hn]; rfl
      clear ha1 ht1 hv2
      have Hg := Lib.hid hg
      clear hg hn
      by_cases ht : 0 < t.size
      · have hte := tail_some ht
        have Hb := Lib.hid (fun x hx => first_byte (x := x) ht hx)
        go_wp2_with fail
        all_goals
          go_meet
          refine ⟨⟨_, rfl, fun hg => ?_⟩, rfl⟩
          try simp at hg
          all_goals first
            | exact ⟨Hg.out, fun x hx => by rw [Hb.out x hx]; exact isDg_no (by omega)⟩
      · have hte := tail_empty ht
        go_wp2_with fail
        go_meet
        exact ⟨⟨_, rfl, fun _ => ⟨Hg.out, fun x hx => absurd hx (fun h => no_byte ht h)⟩⟩, rfl⟩
    · obtain rfl : q = k + 1 := hk
      obtain rfl := ha1 (by omega)
      have K1 := Recs.chr ht1 hx
      have k1 := fun V (o : Old w2 V) => (K1 V o).1
      clear K1 ha1 ht1 hv2 hx
      have Hg := Lib.hid hg
      clear hg
      generalize x.r = r at *
      have hpos : (0 : Int) < (k : Int) + 1 := by omega
      have hwk : wrap64 ((k : Int) + 1 - 1) = k := by rw [Int.add_sub_cancel]; exact w64 (by omega) (by omega)
      by_cases ht : 0 < t.size
      · have hte := tail_some ht
        have Hb := Lib.hid (fun x hx => first_byte (x := x) ht hx)
        go_wp2_with fail
        all_goals
          go_meet
          refine ⟨⟨_, rfl, fun hg => ?_⟩, rfl⟩
          try simp at hg
          all_goals first
            | exact ⟨Hg.out (by omega), fun x hx => by rw [Hb.out x hx]; exact isDg_no (by omega)⟩
      · have hte := tail_empty ht
        go_wp2_with fail
        all_goals
          go_meet
          refine ⟨⟨_, rfl, fun hg => ?_⟩, rfl⟩
          try simp at hg
          all_goals first
            | exact ⟨Hg.out (by omega), fun x hx => absurd hx (fun h => no_byte ht h)⟩
  obtain ⟨⟨g, rfl, hg⟩, rfl⟩ := hcut
  have Hg := Lib.hid hg
  clear hg hh ha1 ht1 hv2
  cases g with
  | true =>
    go_wp2_with fail
    go_ret
    exact ⟨by trivial, o2⟩
  | false =>
    obtain ⟨hn, ht⟩ := Hg.out (by trivial)
    have HD := Lib.hid (fun V => dec_any z m V zm)
    obtain ⟨D, hD⟩ : ∃ D, D = strB (List.replicate (noughtN z) 48 ++ decD m) := ⟨_, rfl⟩
    have hDs : D.size ≤ 25 := by
      rw [hD, strB_size, List.length_append, List.length_replicate]
      have := decD_le m 19 (by omega)
      unfold noughtN; omega
    rw [← hD] at HD
    have hc1 : ¬ 9223372036854775807 < h.size + D.size := by omega
    have hc2 : ¬ 9223372036854775807 < (h ++ D).size + t.size := by rw [ByteArray.size_append]; omega
    by_cases hmn : m = n
    · subst hmn
      have hcmp : compareT (h ++ D ++ t) (h ++ D ++ t) = 0 := compareT_zero.2 rfl
      have HCo := Lib.hid (fun V (o : Old W V) => Compare_at hcmp V (hT.old o) (by rw [ByteArray.size_append, ByteArray.size_append]; omega) (by rw [ByteArray.size_append, ByteArray.size_append]; omega))
      clear hcmp hD hn ht
      go_wp2_with fail
      refine (HD.out _).mono ?_
      rintro e w3 ⟨rfl, ho3⟩
      go_wp2_with fail
      refine (HD.out _).mono ?_
      rintro e w4 ⟨rfl, ho4⟩
      have o4 := (o2.trans ho3).trans ho4
      go_wp2_with fail
      refine (HCo.out _ o4).mono ?_
      rintro e w5 ⟨rfl, ho5⟩
      go_wp2_with fail
      go_ret
      exact ⟨by trivial, o4.trans ho5⟩
    · have HE := Lib.hid (fun V => dec_any 0 n V zn)
      obtain ⟨E, hE⟩ : ∃ E, E = strB (List.replicate (noughtN 0) 48 ++ decD n) := ⟨_, rfl⟩
      have hEs : E.size ≤ 25 := by
        rw [hE, strB_size, List.length_append, List.length_replicate]
        have := decD_le n 19 (by omega)
        unfold noughtN; omega
      rw [← hE] at HE
      have hc3 : ¬ 9223372036854775807 < h.size + E.size := by omega
      have hc4 : ¬ 9223372036854775807 < (h ++ E).size + t.size := by rw [ByteArray.size_append]; omega
      have hme : ((m : Int) == n) = false := by rw [beq_eq_false_iff_ne]; omega
      have hsp : (m < n ∧ compareT (h ++ D ++ t) (h ++ E ++ t) = -1) ∨ (n < m ∧ compareT (h ++ D ++ t) (h ++ E ++ t) = 1) := by
        rw [ByteArray.append_assoc, ByteArray.append_assoc, hD, hE]
        rcases Nat.lt_or_gt_of_ne hmn with hlt | hlt
        · exact .inl ⟨hlt, num_less _ _ hlt hn ht⟩
        · exact .inr ⟨hlt, by rw [compareT_anti, num_less _ _ hlt hn ht]; rfl⟩
      clear hD hE hn ht hmn
      rcases hsp with ⟨hlt, hcmp⟩ | ⟨hlt, hcmp⟩
      all_goals
        have HCo := Lib.hid (fun V (o : Old W V) => Compare_at hcmp V (hT.old o) (by rw [ByteArray.size_append, ByteArray.size_append]; omega) (by rw [ByteArray.size_append, ByteArray.size_append]; omega))
        clear hcmp
        have hli : decide ((n : Int) < m) = decide (n < m) := by simp
        go_wp2_with fail
        refine (HD.out _).mono ?_
        rintro e w3 ⟨rfl, ho3⟩
        go_wp2_with fail
        refine (HE.out _).mono ?_
        rintro e w4 ⟨rfl, ho4⟩
        have o4 := (o2.trans ho3).trans ho4
        go_wp2_with fail
        refine (HCo.out _ o4).mono ?_
        rintro e w5 ⟨rfl, ho5⟩
        go_wp2_with fail
        go_ret
        exact ⟨by trivial, o4.trans ho5⟩
end Go.Proofs.YtjkpmdckpfklgaaDoor
