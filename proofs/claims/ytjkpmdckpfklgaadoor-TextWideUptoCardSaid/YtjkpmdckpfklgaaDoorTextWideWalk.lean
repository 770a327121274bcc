/-
  TextWide: the walk of the statement.
-/
import Derived.Test.YtjkpmdckpfklgaaDoorTextAwake
import Derived.Test.YtjkpmdckpfklgaaDoorTextCodesD
import Derived.Test.YtjkpmdckpfklgaaDoorTextWideP
import Derived.Test.YtjkpmdckpfklgaaDoorTextRefB
namespace Go.Proofs.YtjkpmdckpfklgaaDoor
open Go.RowKit
attribute [local go_sem] Old.refl Old.alloc Old.drew Old.setCell OldW.old
set_option maxRecDepth 100000 in
set_option maxHeartbeats 3200000 in
theorem textWide_row_walk (W : World) (hT : Tabs W) (a : ByteArray) (_ : a.size ≤ 9223372036854775807) (ya : a.size ≤ 1048576) (b : ByteArray) (_ : b.size ≤ 9223372036854775807) (yb : b.size ≤ 1048576) :
    Calls Tryd.prog 5 #[.string a, .string b] W fun e w' => e = .returned (.bool true) ∧ Old W w' := by
  have hsz : (a ++ b).size = a.size + b.size := ByteArray.size_append
  have H0 := Lib.hid (fun V (o : Old W V) => awake_any V (hT.old o))
  have HW := Lib.hid (fun V (o : Old W V) => Wide_any (a ++ b) V (hT.old o) (by omega))
  have HWa := Lib.hid (fun V (o : Old W V) => Wide_any a V (hT.old o) (by omega))
  have HWb := Lib.hid (fun V (o : Old W V) => Wide_any b V (hT.old o) (by omega))
  have HC := Lib.hid (fun V => Chars_any (a ++ b) V (by omega))
  have HCa := Lib.hid (fun V => Chars_any a V (by omega))
  have HCb := Lib.hid (fun V => Chars_any b V (by omega))
  have la := charsAt_len (l := a.data.toList) (a.data.toList.length - 0) 0 rfl
  have lb := charsAt_len (l := b.data.toList) (b.data.toList.length - 0) 0 rfl
  have lc := charsAt_len (l := (a ++ b).data.toList) ((a ++ b).data.toList.length - 0) 0 rfl
  rw [str_len] at la lb lc
  have HJ := Lib.hid (wide_join a b)
  have hwa := wideS_le a
  have hwb := wideS_le b
  have Hnil : Hid (b.size = 0 → a ++ b = a) := fun h => ByteArray.ext (Array.toList_inj.1 (by
    rw [app_list, show b.data.toList = [] from List.eq_nil_of_length_eq_zero (by rw [str_len]; exact h), List.append_nil]))
  have Hhead : Hid (0 < b.size → ∃ t, charsAt b.data.toList 0 = ⟨chR b.data.toList 0, 0, chN b.data.toList 0, badC b.data.toList 0⟩ :: t) := fun h => ⟨_, charsAt_on (by rw [str_len]; exact h)⟩
  have hcat : ¬ 9223372036854775807 < a.size + b.size := by omega
  obtain ⟨S, hS⟩ : ∃ S, a ++ b = S := ⟨_, rfl⟩
  rw [hS] at hsz HW HC lc HJ Hnil
  generalize charsAt S.data.toList 0 = L at *
  generalize charsAt a.data.toList 0 = La at *
  generalize charsAt b.data.toList 0 = Lb at *
  go_enter Tryd.func5, Tryd.ntmps5
  go_wp2_with fail
  refine (H0.out _ (Old.refl W)).mono ?_
  rintro e w1 ⟨rfl, ho1⟩
  go_wp2_with fail
  refine (HC.out _).mono ?_
  rintro e w2 ⟨⟨v2, rfl, hv2⟩, ho2⟩
  have o2 := ho1.trans ho2
  obtain ⟨a1, cap1, b1, off1, rfl, hc11, hc12, ha1, ht1⟩ := hv2.recs
  have Ha1 := Lib.hid ha1
  have Ht1 := Lib.hid ht1
  clear ha1 ht1 hv2
  go_wp2_with fail
  go_loopw [6, 7] (fun f j wr => ∃ (i : Nat) (g : Bool), f = .bool g ∧ j = .int .i64 i ∧ i ≤ L.length ∧ (g = true → ∃ x ∈ L, x.at' = a.size) ∧ w2 = wr) (fun _ j _ => L.length - (intOf j).toNat)
  case atStart => exact ⟨0, false, rfl, rfl, Nat.zero_le _, by simp, rfl⟩
  case round =>
    obtain ⟨i, g, rfl, rfl, hi, hg, rfl⟩ := hrel
    have Hg := Lib.hid hg
    clear hg
    by_cases hlt : i < L.length
    · have hi1 : (i : Int) < L.length := by omega
      obtain rfl := Ha1.out (by omega)
      obtain ⟨x, hx⟩ : ∃ x, L[i]? = some x := ⟨_, List.getElem?_eq_getElem hlt⟩
      have K1 := Recs.chr Ht1.out hx
      have k1 := fun V (o : Old w2 V) => (K1 V o).2.1
      have Hm := Lib.hid (List.mem_of_getElem? hx)
      clear hx K1
      cases g with
      | true =>
        go_wp2_with fail
        go_roundw
        case rel => exact ⟨i + 1, true, rfl, by go_num, by omega, Hg.out, by trivial⟩
        case measure => simp [intOf]; omega
      | false =>
        by_cases hx : x.at' = a.size
        · have hb : ((x.at' : Int) == a.size) = true := by rw [beq_iff_eq]; omega
          have Hx := Lib.hid (show ∃ x ∈ L, x.at' = a.size from ⟨x, Hm.out, hx⟩)
          clear hx
          by_cases h0 : 0 < i
          · have hd : decide ((0 : Int) < i) = true := by simp; omega
            go_wp2_with fail
            go_roundw
            case rel => exact ⟨i + 1, _, rfl, by go_num, by omega, fun _ => Hx.out, by trivial⟩
            case measure => simp [intOf]; omega
          · obtain rfl : i = 0 := by omega
            go_wp2_with fail
            go_roundw
            case rel => exact ⟨1, _, rfl, by go_num, by omega, fun _ => Hx.out, by trivial⟩
            case measure => simp [intOf]; omega
        · have hb : ((x.at' : Int) == a.size) = false := by rw [beq_eq_false_iff_ne]; omega
          clear hx
          go_wp2_with fail
          go_roundw
          case rel => exact ⟨i + 1, false, rfl, by go_num, by omega, by simp, by trivial⟩
          case measure => simp [intOf]; omega
    · have hi1 : ¬ (i : Int) < L.length := by omega
      by_cases hb0 : b.size = 0
      · have hSa := Hnil.out hb0
        obtain rfl : b = ⟨#[]⟩ := ByteArray.ext (Array.toList_inj.1 (List.eq_nil_of_length_eq_zero (by rw [str_len]; exact hb0)))
        subst hSa
        clear hsz
        go_wp2_with fail
        refine (HWa.out _ o2).mono ?_
        rintro e w3 ⟨rfl, ho3⟩
        go_wp2_with fail
        refine (HWa.out _ (o2.trans ho3)).mono ?_
        rintro e w4 ⟨rfl, ho4⟩
        go_wp2_with fail
        go_ret
        exact ⟨by trivial, (o2.trans ho3).trans ho4⟩
      · have hbe : b.toList.isEmpty = false := by
          rw [ByteArray.toList_eq]
          cases h : b.data.toList
          · have := str_len b
            rw [h] at this
            simp at this; omega
          · rfl
        obtain ⟨t, ht⟩ := Hhead.out (by omega)
        have hpos : (0 : Int) < Lb.length := by rw [ht, List.length_cons]; omega
        have hx0 := show Lb[0]? = some (⟨chR b.data.toList 0, 0, chN b.data.toList 0, badC b.data.toList 0⟩ : Chr) from by rw [ht]; rfl
        have Hx0 := Lib.hid hx0
        have hLp : 0 < Lb.length := by omega
        clear ht hx0 hb0
        go_wp2_with fail
        refine (HCb.out _).mono ?_
        rintro e w3 ⟨⟨v3, rfl, hv3⟩, ho3⟩
        obtain ⟨a3, cap3, b3, off3, rfl, hc31, hc32, ha3, ht3⟩ := hv3.recs
        obtain rfl := ha3 hLp
        have K3 := Recs.chr ht3 Hx0.out
        have k3 := fun V (o : Old w3 V) => (K3 V o).1
        simp only [Nat.zero_mul, Nat.add_zero] at k3
        clear K3 ht3 hv3 ha3
        cases g with
        | false =>
          go_wp2_with fail
          go_ret
          exact ⟨by trivial, o2.trans ho3⟩
        | true =>
          go_wp2_with fail
          refine (HCa.out _).mono ?_
          rintro e w4 ⟨⟨v4, rfl, hv4⟩, ho4⟩
          have o4 := (o2.trans ho3).trans ho4
          obtain ⟨a4, cap4, b4, off4, rfl, hc41, hc42, ha4, ht4⟩ := hv4.recs
          clear hv4 ha4 ht4
          by_cases hn : La.length + Lb.length = L.length
          · have hne : (((La.length : Int) + Lb.length) != L.length) = false := by rw [bne_eq_false_iff_eq]; omega
            have HR := Lib.hid (fun V => RWidth_any (chR b.data.toList 0) V)
            by_cases hw : widC (chR b.data.toList 0) = 0
            · rw [hw] at HR
              go_wp2_with fail
              refine (HR.out _).mono ?_
              rintro e w5 ⟨rfl, rfl⟩
              go_wp2_with fail
              go_ret
              exact ⟨by trivial, o4⟩
            · have hj := HJ.out (Hg.out (by trivial)) (by omega) hw
              have hwb' : ((widC (chR b.data.toList 0) : Int) == 0) = false := by rw [beq_eq_false_iff_ne]; omega
              have hje : ((wideS S : Int) == (wideS a : Int) + wideS b) = true := by rw [beq_iff_eq]; omega
              clear hw hj
              go_wp2_with fail
              refine (HR.out _).mono ?_
              rintro e w5 ⟨rfl, rfl⟩
              go_wp2_with fail
              refine (HW.out _ o4).mono ?_
              rintro e w6 ⟨rfl, ho6⟩
              go_wp2_with fail
              refine (HWa.out _ (o4.trans ho6)).mono ?_
              rintro e w7 ⟨rfl, ho7⟩
              go_wp2_with fail
              refine (HWb.out _ ((o4.trans ho6).trans ho7)).mono ?_
              rintro e w8 ⟨rfl, ho8⟩
              go_wp2_with fail
              go_ret
              exact ⟨by trivial, ((o4.trans ho6).trans ho7).trans ho8⟩
          · have hne : (((La.length : Int) + Lb.length) != L.length) = true := by rw [bne_iff_ne]; omega
            go_wp2_with fail
            go_ret
            exact ⟨by trivial, o4⟩
end Go.Proofs.YtjkpmdckpfklgaaDoor
