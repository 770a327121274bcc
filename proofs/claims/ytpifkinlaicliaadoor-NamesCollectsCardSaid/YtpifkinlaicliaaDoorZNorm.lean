/-
  TEXT, COMPARE: two texts.
-/
import Derived.Test.YtpifkinlaicliaaDoorZTextCompare3
import Derived.Test.YtpifkinlaicliaaDoorZTextWide
import Derived.Test.YtpifkinlaicliaaDoorZTextCodesC
import Derived.Test.YtpifkinlaicliaaDoorZTextRefA
import Derived.BigQuiet
import Derived.Deep.DeepCutAuto
import Derived.Test.YtpifkinlaicliaaDoorZTextFold
namespace Go.Proofs.YtpifkinlaicliaaDoor
open Go.RowKit
attribute [local go_sem] Old.refl Old.alloc Old.drew Old.setCell OldW.old

theorem str_beq (a b : ByteArray) : (a.toList == b.toList) = decide (a = b) := by
  rw [ByteArray.toList_eq, ByteArray.toList_eq, Bool.eq_iff_iff, beq_iff_eq, decide_eq_true_iff]
  exact ⟨fun h => ByteArray.ext (Array.toList_inj.1 h), fun h => by rw [h]⟩
/-- two texts compared -/
def compareT (a b : ByteArray) : Int :=
  if a = b then 0 else orL [lexL cmpEl (elsS a) (elsS b), lexL (byF smallC) (runesI a) (runesI b), lexL (byF id) (runesI a) (runesI b), Lib.compareBytes a.data.toList b.data.toList]
set_option maxRecDepth 100000 in
set_option maxHeartbeats 1600000 in
theorem Compare_any (a b : ByteArray) (w : World) (hT : Tabs w) (ha : a.size ≤ 4194304) (hb : b.size ≤ 4194304) :
    Calls Tryd.prog 29 #[.string a, .string b] w fun e w' => e = .returned (.int .i64 (compareT a b)) ∧ Old w w' := by
  by_cases h : a = b
  · have Hs := Lib.hid (show compareT a b = 0 from if_pos h)
    have hs : (a.toList == b.toList) = true := by rw [str_beq]; simpa using h
    clear h
    go_enter Tryd.func29, Tryd.ntmps29
    go_wp2_with fail
    go_ret
    exact ⟨by rw [Hs.out]; rfl, Old.refl _⟩
  · have Hs := Lib.hid (show compareT a b = _ from if_neg h)
    have hs : (a.toList == b.toList) = false := by rw [str_beq]; simpa using h
    clear h
    have H1 := Lib.hid (fun V (o : Old w V) => byElements_any a b V (hT.old o) ha hb)
    have H2 := Lib.hid (fun V => byRunes_small a b V ha hb)
    have H3 := Lib.hid (fun V => byRunes_same a b V ha hb)
    have H4 := Lib.hid (fun V => Tryd.strings_Compare a b V)
    generalize lexL cmpEl (elsS a) (elsS b) = c1 at *
    generalize lexL (byF smallC) (runesI a) (runesI b) = c2 at *
    generalize lexL (byF id) (runesI a) (runesI b) = c3 at *
    generalize Lib.compareBytes a.data.toList b.data.toList = c4 at *
    go_enter Tryd.func29, Tryd.ntmps29
    go_wp2_with fail
    refine (H1.out _ (Old.refl w)).mono ?_
    rintro e w1 ⟨rfl, ho1⟩
    go_wp2_with fail
    refine (H2.out _).mono ?_
    rintro e w2 ⟨rfl, ho2⟩
    go_wp2_with fail
    refine (H3.out _).mono ?_
    rintro e w3 ⟨rfl, ho3⟩
    go_wp2_with fail
    refine (H4.out _).mono ?_
    rintro e w4 ⟨rfl, rfl⟩
    go_wp2_with fail
    refine (Or_any _ [c1, c2, c3, c4] _ (Nums.fresh _ 3 _)).mono ?_
    rintro e w5 ⟨rfl, rfl⟩
    go_wp2_with fail
    go_ret
    exact ⟨by rw [Hs.out]; rfl, ((ho1.trans ho2).trans ho3).alloc _⟩
end Go.Proofs.YtpifkinlaicliaaDoor
/-
  TEXT, THE DOCUMENT's, F: folded.
-/



namespace Go.Proofs.YtpifkinlaicliaaDoor
open Go.RowKit
attribute [local go_sem] Old.refl Old.alloc Old.drew Old.setCell OldW.old

theorem encode_rune (r : Int) : Utf8.encode r = ⟨(Lib.encodeRune r).toArray⟩ := by
  have key : ∀ n : Nat, UInt8.ofNat n = ((n : Int)).toNat.toUInt8 := fun n => rfl
  unfold Lib.encodeRune
  by_cases h0 : 0 ≤ r ∧ r ≤ 1114111 ∧ ¬ (55296 ≤ r ∧ r ≤ 57343)
  · obtain ⟨n, rfl⟩ := Int.eq_ofNat_of_zero_le h0.1
    have hv : Utf8.valid (n : Int) = true := by simp [Utf8.valid]; omega
    unfold Utf8.encode
    rw [if_pos hv]
    simp only [Int.toNat_natCast]
    by_cases c1 : n < 128
    · rw [if_pos c1, Lib.encodeRuneZ_one (by omega) (by omega)]; rfl
    · rw [if_neg c1]
      by_cases c2 : n < 2048
      · rw [if_pos c2, Lib.encodeRuneZ_two (by omega) (by omega)]; rfl
      · rw [if_neg c2]
        by_cases c3 : n < 65536
        · rw [if_pos c3, Lib.encodeRuneZ_three (by omega)]; rfl
        · rw [if_neg c3, Lib.encodeRuneZ_four (by omega) (by omega)]; rfl
  · have hv : ¬ Utf8.valid r = true := by simp [Utf8.valid]; omega
    unfold Utf8.encode
    rw [if_neg hv, Lib.encodeRuneZ_bad (by omega)]
    rfl
def strB (t : List UInt8) : ByteArray := ⟨t.toArray⟩
theorem strB_app (t u : List UInt8) : strB t ++ strB u = strB (t ++ u) := by
  apply ByteArray.ext
  simp [strB]
theorem strB_size (t : List UInt8) : (strB t).size = t.length := by simp [strB, ByteArray.size]
theorem strB_empty (t : List UInt8) : (!(strB t).toList.isEmpty) = decide (0 < t.length) := by
  rw [ByteArray.toList_eq]
  show (!t.isEmpty) = _
  cases t <;> rfl
theorem extract_one (s : ByteArray) {p : Nat} (h : p < s.size) : s.extract p (p + 1) = strB [s.data.toList.getD p 0] := by
  apply ByteArray.ext
  apply Array.toList_inj.1
  rw [extract_list]
  have h' : p < s.data.toList.length := by rw [str_len]; exact h
  show _ = [s.data.toList.getD p 0]
  rw [List.getD_eq_getElem?_getD, List.getElem?_eq_getElem h']
  rw [List.take_succ_eq_append_getElem h', List.drop_append_of_le_length (by simp; omega), List.drop_eq_nil_of_le (by rw [List.length_take]; omega)]
  rfl
theorem chN_ascii {l : List UInt8} {p : Nat} (hp : p < l.length) (h : chR l p < 128) : chN l p = 1 := by
  have hne : l.drop p ≠ [] := by
    intro e
    have := congrArg List.length e
    simp at this; omega
  have he := Lib.encode_decode (l.drop p) hne (fun k => by unfold chR at h; omega)
  have hl := congrArg List.length he
  have hle := chN_le hp
  rw [List.length_take, List.length_drop] at hl
  unfold Lib.encodeRune at hl
  rw [Lib.encodeRuneZ_one (by omega) (by unfold chR at h; omega)] at hl
  unfold chN at hle ⊢
  simp at hl
  omega
end Go.Proofs.YtpifkinlaicliaaDoor
/-
  A NAME's NORM: the program's, the document's.
-/

namespace Go.Proofs.YtpifkinlaicliaaDoor
open Go.RowKit
attribute [local go_sem] Old.refl Old.alloc Old.drew Old.setCell OldW.old

/-- what counts of a name, and the error's number -/
def normR (s : ByteArray) : ByteArray × Int :=
  if 64 < s.size then (⟨#[]⟩, 2) else if (plainAt s.data.toList 0).2 = false then (⟨#[]⟩, 70) else if foldS s = ⟨#[]⟩ then (⟨#[]⟩, 70) else (foldS s, 0)
theorem normR_err (s : ByteArray) : (normR s).2 = 0 ∨ (normR s).2 = 2 ∨ (normR s).2 = 70 := by
  unfold normR
  repeat' split
  all_goals simp
theorem normR_bad {s : ByteArray} (h : ¬ (normR s).2 = 0) : (normR s).1 = ⟨#[]⟩ := by
  unfold normR at h ⊢
  repeat' split
  all_goals simp_all
theorem normR_ok {s : ByteArray} (h : (normR s).2 = 0) : (normR s).1 = foldS s ∧ foldS s ≠ ⟨#[]⟩ ∧ s.size ≤ 64 ∧ (plainAt s.data.toList 0).2 = true := by
  unfold normR at h ⊢
  repeat' split
  all_goals simp_all
theorem str_nil {s : ByteArray} (h : ¬ s = ⟨#[]⟩) : s.toList.isEmpty = false := by
  rw [ByteArray.toList_eq, List.isEmpty_eq_false_iff]
  intro e
  exact h (ByteArray.ext (Array.toList_inj.1 e))
theorem foldC_len (s : ByteArray) (p : Nat) : (foldC s p).length ≤ 4 := by
  unfold foldC
  split
  · simp
  · have h := Lib.runeCells_le (smallC (chR s.data.toList p))
    rw [Lib.runeCells_length] at h
    exact h.2
theorem foldGo_len (s : ByteArray) : ∀ (d p : Nat) (wt : Bool) (t : List UInt8), s.size - p = d → (foldGo s p wt t).length ≤ t.length + 5 * d := fun d => by
  induction d using Nat.strongRecOn with
  | _ d ih =>
    intro p wt t hd
    by_cases hp : p < s.size
    · by_cases h : chR s.data.toList p = 32
      · rw [foldGo_sp hp h]
        have := ih (d - 1) (by omega) (p + 1) (decide (0 < t.length)) t (by omega)
        omega
      · rw [foldGo_on hp h]
        have h1 := chN_pos s.data.toList p
        have := ih (s.size - (p + chN s.data.toList p)) (by omega) (p + chN s.data.toList p) false ((if wt then t ++ [32] else t) ++ foldC s p) rfl
        have h3 := foldC_len s p
        have h4 : (if wt then t ++ [32] else t).length ≤ t.length + 1 := by split <;> simp
        rw [List.length_append] at this
        omega
    · rw [foldGo_end hp]; omega
theorem foldS_le (s : ByteArray) : (foldS s).size ≤ 5 * s.size := by
  have h := foldGo_len s s.size 0 false [] (by omega)
  unfold foldS foldB
  have e : ∀ l : List UInt8, (⟨l.toArray⟩ : ByteArray).size = l.length := fun l => rfl
  rw [e]
  simpa using h
theorem normR_size (s : ByteArray) : (normR s).1.size ≤ 320 := by
  unfold normR
  repeat' split
  · exact Nat.zero_le _
  · exact Nat.zero_le _
  · exact Nat.zero_le _
  · have := foldS_le s
    dsimp only
    omega
set_option maxHeartbeats 800000 in
theorem Norm_any (s : ByteArray) (w : World) (hT : Tabs w) :
    Calls Tryd.prog 19 #[.string s] w fun e w' => e = .returned (.tuple #[.string (normR s).1, .int .i64 (normR s).2]) ∧ Old w w' := by
  by_cases h64 : 64 < s.size
  · have hi : (64 : Int) < s.size := by omega
    have Hr : Hid (normR s = (⟨#[]⟩, 2)) := Lib.hid (by unfold normR; rw [if_pos h64])
    clear h64
    go_enter Tryd.func19, Tryd.ntmps19
    go_wp2_with fail
    go_ret2
    exact ⟨ret_two (by rw [Hr.out]; rfl) (by rw [Hr.out]; rfl), Old.refl _⟩
  · have hi : ¬ (64 : Int) < s.size := by omega
    have HP := Lib.hid (Plain_any s w hT)
    have HF := Lib.hid (fun V (o : Old w V) => Fold_any s V (hT.old o) (by omega))
    cases hp : (plainAt s.data.toList 0).2 with
    | false =>
      have Hr : Hid (normR s = (⟨#[]⟩, 70)) := Lib.hid (by unfold normR; rw [if_neg h64, if_pos hp])
      rw [hp] at HP
      clear h64 hp
      go_enter Tryd.func19, Tryd.ntmps19
      go_wp2_with fail
      refine HP.out.mono ?_
      rintro e w1 ⟨rfl, o1⟩
      go_wp2_with fail
      go_ret2
      exact ⟨ret_two (by rw [Hr.out]; rfl) (by rw [Hr.out]; rfl), o1⟩
    | true =>
      rw [hp] at HP
      by_cases hf : foldS s = ⟨#[]⟩
      · have Hr : Hid (normR s = (⟨#[]⟩, 70)) := Lib.hid (by unfold normR; rw [if_neg h64, if_neg (by rw [hp]; exact Bool.noConfusion), if_pos hf])
        rw [hf] at HF
        clear h64 hp hf
        go_enter Tryd.func19, Tryd.ntmps19
        go_wp2_with fail
        refine HP.out.mono ?_
        rintro e w1 ⟨rfl, o1⟩
        go_wp2_with fail
        refine (HF.out _ o1).mono ?_
        rintro e w2 ⟨rfl, o2⟩
        go_wp2_with fail
        go_ret2
        exact ⟨ret_two (by rw [Hr.out]; rfl) (by rw [Hr.out]; rfl), o1.trans o2⟩
      · have Hr : Hid (normR s = (foldS s, 0)) := Lib.hid (by unfold normR; rw [if_neg h64, if_neg (by rw [hp]; exact Bool.noConfusion), if_neg hf])
        have hs := str_nil hf
        generalize foldS s = f at *
        clear h64 hp hf
        go_enter Tryd.func19, Tryd.ntmps19
        go_wp2_with fail
        refine HP.out.mono ?_
        rintro e w1 ⟨rfl, o1⟩
        go_wp2_with fail
        refine (HF.out _ o1).mono ?_
        rintro e w2 ⟨rfl, o2⟩
        go_wp2_with fail
        go_ret2
        exact ⟨ret_two (by rw [Hr.out]; rfl) (by rw [Hr.out]; rfl), o1.trans o2⟩
end Go.Proofs.YtpifkinlaicliaaDoor
