/-
  NAMES, AWAKE: the chapter's second example.
-/
import Derived.Test.YtpifkinlaicliaaDoorZAscii
import Derived.Test.YtpifkinlaicliaaDoorZTabN
import Derived.Test.YtpifkinlaicliaaDoorZNear
import Derived.Test.YtpifkinlaicliaaDoorZQuiet
import Derived.Test.YtpifkinlaicliaaDoorZNorm
import Derived.Test.YtpifkinlaicliaaDoorZTextElems2
import Derived.Lib.TrimAscii
namespace Go.Proofs.YtpifkinlaicliaaDoor
open Go.RowKit
attribute [local go_sem] Old.refl Old.alloc Old.drew Old.setCell OldW.old

theorem Txts.mk {w : World} {b off cap : Nat} {l : List ByteArray} (h1 : l.length ≤ cap) (h2 : cap ≤ 9223372036854775807) (h : ∀ i, i < l.length → w.cell? ⟨b, off + i, none⟩ = some (.string (l.getD i ⟨#[]⟩))) :
    Txts w (.slice (some ⟨b, off, none⟩) l.length cap) l := ⟨_, cap, b, off, rfl, h1, h2, fun _ => rfl, fun i hi => later (h i hi)⟩
theorem ex3_txts (w : World) : Txts (w.alloc (.cells #[.string sHome, .string sIndex, .string sIndices] 9)) (.slice (some ⟨w.heap.size, 0, none⟩) 3 3) ex3 :=
  Txts.mk (l := ex3) (cap := 3) (by decide) (by decide) (fun i hi => by
    have hi' : i < 3 := hi
    rcases i with _ | _ | _ | i
    · simp [go_sem, ex3]
    · simp [go_sem, ex3]
    · simp [go_sem, ex3]
    · omega)
theorem New_ok (l : List ByteArray) (v : Value) (w : World) (hv : Txts w v l) (hT : Tabs w) (h : (newR l).2 = 0) :
    Calls Tryd.prog 10 #[v] w fun e w' => (∃ c b n u0 u1, e = .returned (.tuple #[.pointer (some ⟨c, 0, none⟩), .int .i64 0, .int .i64 0]) ∧ TabO w w' c b n u0 u1 l) ∧ Old w w' :=
  (New_any l v w hv hT).mono fun e w' ⟨⟨p, he, hp⟩, o⟩ => by
    rcases hp with ⟨_, c, b, n, u0, u1, rfl, ht⟩ | ⟨h', _⟩
    · rw [newR_zero h] at he
      exact ⟨⟨c, b, n, u0, u1, he, ht⟩, o⟩
    · exact absurd h h'
theorem New_no (l : List ByteArray) (v : Value) (w : World) (hv : Txts w v l) (hT : Tabs w) (h : ¬ (newR l).2 = 0) :
    Calls Tryd.prog 10 #[v] w fun e w' => e = .returned (.tuple #[.pointer none, .int .i64 (newR l).1, .int .i64 (newR l).2]) ∧ Old w w' :=
  (New_any l v w hv hT).mono fun e w' ⟨⟨p, he, hp⟩, o⟩ => by
    rcases hp with ⟨h', _⟩ | ⟨_, rfl⟩
    · exact absurd h' h
    · exact ⟨he, o⟩
set_option maxRecDepth 100000 in
set_option maxHeartbeats 3200000 in
theorem awake_any (w : World) (hT : Tabs w) : Calls Tryd.prog 9 #[] w fun e w' => e = .returned (.bool true) ∧ Old w w' := by
  have hnamed : Named ex3 := named_of (by rw [ex3_new])
  have HT := Lib.hid hT
  have H1 := Lib.hid (New_ok ex3 _ _ (ex3_txts w) (hT.old ((Old.refl w).alloc _)) (by rw [ex3_new]))
  have H2 := Lib.hid (fun V (o : Old w V) => Norm_any sMy V (hT.old o))
  simp only [nMy] at H2
  have H3 := Lib.hid (fun p V (o : Old w V) (h : Hdl V p ex3) => Find_any p ex3 sINDEX V (hT.old o) h)
  rw [ex3_find] at H3
  have H4 := Lib.hid (fun p V (o : Old w V) (h : Hdl V p ex3) => Prefix_any p ex3 hnamed sInd (by decide) V (hT.old o) h)
  have H5 := Lib.hid (fun p V (o : Old w V) (h : Hdl V p ex3) => Near_any p ex3 hnamed sHoem V (hT.old o) h)
  have H6 := Lib.hid (fun p V (h : Hdl V p ex3) => Len_any p ex3 V h)
  have Hl2 : ((prefixL ex3 sInd).map Int.ofNat).length = 2 := by rw [List.length_map]; exact ex3_prefix
  have Hl1 : ((nearL ex3 sHoem).map Int.ofNat).length = 1 := by rw [List.length_map]; exact ex3_near
  have H7 := Lib.hid (fun V => Apart_any sKitten sSitting V (by decide) (by decide))
  rw [apart_kitten] at H7
  clear hT
  go_enter Tryd.func9, Tryd.ntmps9
  go_wp2_with (first
    | (go_at_call 10; refine H1.out.mono ?_; rintro e w1 ⟨⟨c, b, n, u0, u1, rfl, ht⟩, o1⟩; have HD := Lib.hid (show Hdl w1 (some ⟨c, 0, none⟩) ex3 from .inr ⟨c, rfl, ht.tab⟩); have O1 := ((Old.refl w).alloc (.cells #[.string sHome, .string sIndex, .string sIndices] 9)).trans o1; clear ht)
    | (go_at_call 19; refine (H2.out _ O1).mono ?_; rintro e w2 ⟨rfl, o2⟩; have HD2 := Lib.hid (HD.out.old o2); have O2 := O1.trans o2)
    | (go_at_call 12; refine (H3.out _ _ O2 HD2.out).mono ?_; rintro e w3 ⟨rfl, o3⟩; have HD3 := Lib.hid (HD2.out.old o3); have O3 := O2.trans o3)
    | (go_at_call 14; refine (H4.out _ _ O3 HD3.out).mono ?_; rintro e w4 ⟨⟨y4, rfl, hy4⟩, o4⟩; obtain ⟨a4, c4, rfl, _, _⟩ := ownsRow_form hy4; have HD4 := Lib.hid (HD3.out.old o4); have O4 := O3.trans o4; clear hy4; rw [Hl2])
    | (go_at_call 13; refine (H5.out _ _ O4 HD4.out).mono ?_; rintro e w5 ⟨⟨y5, rfl, hy5⟩, o5⟩; obtain ⟨a5, c5, rfl, _, _⟩ := ownsRow_form hy5; have HD5 := Lib.hid (HD4.out.old o5); have O5 := O4.trans o5; clear hy5; rw [Hl1])
    | (go_at_call 17; refine (H7.out _).mono ?_; rintro e w6 ⟨rfl, o6⟩; have HD6 := Lib.hid (HD5.out.old o6); have O6 := O5.trans o6)
    | (go_at_call 11; refine (H6.out _ _ HD6.out).mono ?_; rintro e w7 ⟨rfl, o7⟩; have O7 := O6.trans o7))
  go_ret
  exact ⟨rfl, O7⟩
end Go.Proofs.YtpifkinlaicliaaDoor
/-
  TEXT, JOINED: the characters of two texts, one behind the other, over no program.
-/

namespace Go.Proofs.YtpifkinlaicliaaDoor
open Go.RowKit

theorem getD_app1 {x b : List UInt8} {i : Nat} (h : i < x.length) : (x ++ b).getD i 0 = x.getD i 0 := by
  rw [List.getD_eq_getElem?_getD, List.getD_eq_getElem?_getD, List.getElem?_append_left h]
theorem getD_app2 {x b : List UInt8} {i : Nat} (h : x.length ≤ i) : (x ++ b).getD i 0 = b.getD (i - x.length) 0 := by
  rw [List.getD_eq_getElem?_getD, List.getD_eq_getElem?_getD, List.getElem?_append_right h]
theorem getD_over {x : List UInt8} {i : Nat} (h : x.length ≤ i) : x.getD i 0 = 0 := by
  rw [List.getD_eq_getElem?_getD, List.getElem?_eq_none h]; rfl
set_option maxRecDepth 100000 in
set_option maxHeartbeats 4000000 in
theorem decodeN_cut (n m b0 b1 b2 b3 c1 c2 c3 : Nat) (hn : 1 ≤ n) (hm : n ≤ m) (e1 : 1 < n → c1 = b1) (e2 : 2 < n → c2 = b2) (e3 : 3 < n → c3 = b3) (h : (Lib.decodeN m b0 c1 c2 c3).2 ≤ n) :
    Lib.decodeN m b0 c1 c2 c3 = Lib.decodeN n b0 b1 b2 b3 := by
  by_cases n1 : n = 1
  · subst n1
    unfold Lib.decodeN at h ⊢
    repeat' split at h
    all_goals first
      | (exfalso; simp only at h; omega)
      | (simp only at h
         repeat' split
         all_goals first | rfl | (exfalso; omega))
  · obtain rfl := e1 (by omega)
    by_cases n2 : n = 2
    · subst n2
      unfold Lib.decodeN at h ⊢
      repeat' split at h
      all_goals first
        | (exfalso; simp only at h; omega)
        | (simp only at h
           repeat' split
           all_goals first | rfl | (exfalso; omega))
    · obtain rfl := e2 (by omega)
      by_cases n3 : n = 3
      · subst n3
        unfold Lib.decodeN at h ⊢
        repeat' split at h
        all_goals first
          | (exfalso; simp only at h; omega)
          | (simp only at h
             repeat' split
             all_goals first | rfl | (exfalso; omega))
      · obtain rfl := e3 (by omega)
        unfold Lib.decodeN at h ⊢
        repeat' split at h
        all_goals first
          | (exfalso; simp only at h; omega)
          | (simp only at h
             repeat' split
             all_goals first | rfl | (exfalso; omega))
/-- a character that ends within a text's first part is one of that part -/
theorem decodeL_cut {x b : List UInt8} (hx : x ≠ []) (h : (Lib.decodeL (x ++ b)).2 ≤ x.length) : Lib.decodeL (x ++ b) = Lib.decodeL x := by
  have hl : 0 < x.length := List.length_pos_iff.2 hx
  rw [Lib.decodeL_N] at h ⊢
  rw [Lib.decodeL_N x]
  rw [getD_app1 hl] at h ⊢
  exact decodeN_cut x.length (x ++ b).length _ _ _ _ _ _ _ (by omega) (by rw [List.length_append]; omega) (fun k => congrArg UInt8.toNat (getD_app1 k)) (fun k => congrArg UInt8.toNat (getD_app1 k)) (fun k => congrArg UInt8.toNat (getD_app1 k)) h
set_option maxRecDepth 100000 in
set_option maxHeartbeats 4000000 in
theorem decodeN_lead (n m b0 b1 b2 b3 c1 c2 c3 : Nat) (hn : 1 ≤ n) (hm : n < m) (e1 : 1 < n → c1 = b1) (e2 : 2 < n → c2 = b2) (e3 : 3 < n → c3 = b3) (h1 : n = 1 → c1 / 64 ≠ 2) (h2 : n = 2 → c2 / 64 ≠ 2) (h3 : n = 3 → c3 / 64 ≠ 2) :
    Lib.decodeN m b0 c1 c2 c3 = Lib.decodeN n b0 b1 b2 b3 := by
  by_cases n1 : n = 1
  · subst n1
    have := h1 rfl
    unfold Lib.decodeN
    repeat' split
    all_goals first | rfl | (exfalso; omega)
  · obtain rfl := e1 (by omega)
    by_cases n2 : n = 2
    · subst n2
      have := h2 rfl
      unfold Lib.decodeN
      repeat' split
      all_goals first | rfl | (exfalso; omega)
    · obtain rfl := e2 (by omega)
      by_cases n3 : n = 3
      · subst n3
        have := h3 rfl
        unfold Lib.decodeN
        repeat' split
        all_goals first | rfl | (exfalso; omega)
      · obtain rfl := e3 (by omega)
        unfold Lib.decodeN
        repeat' split
        all_goals first | rfl | (exfalso; omega)
/-- what a text may begin with that goes on no character ahead -/
def leads (b : List UInt8) : Prop := (b.getD 0 0).toNat / 64 ≠ 2
theorem leads_nil : leads [] := by unfold leads; decide
theorem decodeL_lead {x b : List UInt8} (hx : x ≠ []) (hb : leads b) : Lib.decodeL (x ++ b) = Lib.decodeL x := by
  by_cases hbn : b = []
  · rw [hbn, List.append_nil]
  have hl : 0 < x.length := List.length_pos_iff.2 hx
  have hl2 : 0 < b.length := List.length_pos_iff.2 hbn
  rw [Lib.decodeL_N, Lib.decodeL_N x, getD_app1 hl]
  refine decodeN_lead x.length (x ++ b).length _ _ _ _ _ _ _ (by omega) (by rw [List.length_append]; omega) (fun k => congrArg UInt8.toNat (getD_app1 k)) (fun k => congrArg UInt8.toNat (getD_app1 k)) (fun k => congrArg UInt8.toNat (getD_app1 k)) (fun k => ?_) (fun k => ?_) (fun k => ?_)
  all_goals (rw [getD_app2 (by omega), k]; exact hb)
theorem drop_shift (a b : List UInt8) (q : Nat) : (a ++ b).drop (a.length + q) = b.drop q := by
  rw [List.drop_append, List.drop_eq_nil_of_le (by omega), List.nil_append, Nat.add_sub_cancel_left]
theorem chR_shift (a b : List UInt8) (q : Nat) : chR (a ++ b) (a.length + q) = chR b q := by unfold chR; rw [drop_shift]
theorem chN_shift (a b : List UInt8) (q : Nat) : chN (a ++ b) (a.length + q) = chN b q := by unfold chN; rw [drop_shift]
theorem badC_shift (a b : List UInt8) (q : Nat) : badC (a ++ b) (a.length + q) = badC b q := by unfold badC; rw [chR_shift, chN_shift]
theorem drop_ne {a : List UInt8} {p : Nat} (h : p < a.length) : a.drop p ≠ [] := by
  intro e
  have := congrArg List.length e
  simp at this; omega
theorem ch_cut {a b : List UInt8} {p : Nat} (h : p < a.length) (h' : p + chN (a ++ b) p ≤ a.length) : chR (a ++ b) p = chR a p ∧ chN (a ++ b) p = chN a p := by
  have e : (a ++ b).drop p = a.drop p ++ b := List.drop_append_of_le_length (by omega)
  unfold chN at h'
  unfold chR chN
  rw [e] at h' ⊢
  rw [decodeL_cut (drop_ne h) (by rw [List.length_drop]; omega)]
  exact ⟨rfl, rfl⟩
theorem ch_lead {a b : List UInt8} {p : Nat} (h : p < a.length) (hb : leads b) : chR (a ++ b) p = chR a p ∧ chN (a ++ b) p = chN a p := by
  have e : (a ++ b).drop p = a.drop p ++ b := List.drop_append_of_le_length (by omega)
  unfold chR chN
  rw [e, decodeL_lead (drop_ne h) hb]
  exact ⟨rfl, rfl⟩
end Go.Proofs.YtpifkinlaicliaaDoor
/-
  TEXT, DIGITS: digits among bytes and among characters, over no program.
-/



namespace Go.Proofs.YtpifkinlaicliaaDoor
open Go.RowKit

theorem drop_cons {l : List UInt8} {p : Nat} (hp : p < l.length) : l.drop p = l.getD p 0 :: l.drop (p + 1) := by
  rw [List.drop_eq_getElem_cons hp, List.getD_eq_getElem?_getD, List.getElem?_eq_getElem hp]; rfl
/-- a byte below 128 is a character -/
theorem chR_byte {l : List UInt8} {p : Nat} (hp : p < l.length) (h : (l.getD p 0).toNat < 128) : chR l p = (l.getD p 0).toNat ∧ chN l p = 1 := by
  unfold chR chN
  rw [drop_cons hp, Lib.decodeL_ascii _ _ h]
  exact ⟨rfl, rfl⟩
/-- a character below 128 is a byte -/
theorem chR_small {l : List UInt8} {p : Nat} (hp : p < l.length) (h : chR l p < 128) : (l.getD p 0).toNat = chR l p := by
  have hne : l.drop p ≠ [] := by
    intro e
    have := congrArg List.length e
    simp at this; omega
  have he : Lib.encodeRune (chR l p : Int) = (l.drop p).take (chN l p) := Lib.encode_decode (l.drop p) hne (fun k => by unfold chR at h; omega)
  rw [chN_ascii hp h] at he
  generalize chR l p = r at *
  unfold Lib.encodeRune at he
  rw [Lib.encodeRuneZ_one (by omega) (by omega), drop_cons hp] at he
  simp at he
  rw [List.getD_eq_getElem?_getD, ← he]
  simp
  omega
theorem digit_iff {l : List UInt8} {p : Nat} (hp : p < l.length) : inR (chR l p) 48 57 = isDg (l.getD p 0) := by
  rw [Bool.eq_iff_iff, inR_iff]
  unfold isDg
  simp only [Bool.and_eq_true, decide_eq_true_eq]
  constructor
  · rintro ⟨h1, h2⟩
    have := chR_small hp (by omega)
    omega
  · rintro ⟨h1, h2⟩
    have := (chR_byte hp (by omega)).1
    omega
theorem dgN_cons (b : UInt8) (l : List UInt8) : dgN (b :: l) = if isDg b then dgN l + 1 else 0 := by
  unfold dgN
  rw [List.takeWhile_cons]
  split <;> simp
theorem dgAt_on {s : ByteArray} {p : Nat} (hp : p < s.size) (h : isDg (s.data.toList.getD p 0) = true) : dgAt s p = dgAt s (p + 1) + 1 := by
  unfold dgAt
  rw [drop_cons (by rw [str_len]; exact hp), dgN_cons, if_pos h]
theorem dgAt_off {s : ByteArray} {p : Nat} (hp : p < s.size) (h : isDg (s.data.toList.getD p 0) = false) : dgAt s p = 0 := by
  unfold dgAt
  rw [drop_cons (by rw [str_len]; exact hp), dgN_cons, if_neg (by rw [h]; decide)]
theorem dgAt_end {s : ByteArray} {p : Nat} (hp : ¬ p < s.size) : dgAt s p = 0 := by
  unfold dgAt
  rw [List.drop_eq_nil_of_le (by rw [str_len]; omega)]; rfl
/-- the digits from p to q without noughts ahead, as bytes -/
def trimL (s : ByteArray) (p q : Nat) : List UInt8 := Lib.trimLeftB (s.extract p q).data.toList 48
theorem trimL_zero (s : ByteArray) (p : Nat) : trimL s p p = [] := by
  unfold trimL
  rw [extract_list, List.drop_eq_nil_of_le (by rw [List.length_take]; omega)]; rfl
theorem trimL_succ {s : ByteArray} {p q : Nat} (hpq : p ≤ q) (hq : q < s.size) :
    trimL s p (q + 1) = if trimL s p q = [] ∧ s.data.toList.getD q 0 = 48 then [] else trimL s p q ++ [s.data.toList.getD q 0] := by
  have h' : q < s.data.toList.length := by rw [str_len]; exact hq
  have he : (s.extract p (q + 1)).data.toList = (s.extract p q).data.toList ++ [s.data.toList.getD q 0] := by
    rw [extract_list, extract_list, List.take_succ_eq_append_getElem h', List.drop_append_of_le_length (by rw [List.length_take]; omega), List.getD_eq_getElem?_getD, List.getElem?_eq_getElem h']
    rfl
  unfold trimL Lib.trimLeftB
  rw [he, List.dropWhile_append]
  by_cases h : ((s.extract p q).data.toList.dropWhile (· == 48)).isEmpty = true
  · rw [if_pos h]
    have h0 : (s.extract p q).data.toList.dropWhile (· == 48) = [] := List.isEmpty_iff.1 h
    rw [h0]
    by_cases k : s.data.toList.getD q 0 = 48
    · rw [if_pos ⟨rfl, k⟩, k]; rfl
    · rw [if_neg (fun x => k x.2)]
      rw [List.dropWhile_cons, if_neg (by simpa using k)]; rfl
  · rw [if_neg h, if_neg (fun x => h (by rw [x.1]; rfl))]
theorem trimN_eq (s : ByteArray) (p q : Nat) : trimN s p q = strB (trimL s p q) := rfl
end Go.Proofs.YtpifkinlaicliaaDoor
