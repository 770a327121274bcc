/-
  NAMES, AWAKE: the chapter's second example.
-/
import Derived.Test.YtpifkinlaicliaaDoorZAscii
import Derived.Test.YtpifkinlaicliaaDoorZTabN
import Derived.Test.YtpifkinlaicliaaDoorZNear
import Derived.Test.YtpifkinlaicliaaDoorZRecs
import Derived.Test.YtpifkinlaicliaaDoorProg
import Derived.Test.YtpifkinlaicliaaDoorZNorm
import Derived.Test.YtpifkinlaicliaaDoorZTextElems2
import Derived.Lib.TrimAscii
namespace Go.Proofs.YtpifkinlaicliaaDoor
open Go.RowKit
attribute [local go_sem] Old.refl Old.alloc Old.drew Old.setCell OldW.old

theorem Txts.mk {w : World} {b off cap : Nat} {l : List ByteArray} (h1 : l.length ≤ cap) (h2 : cap ≤ 9223372036854775807) (h : ∀ i, i < l.length → w.cell? ⟨b, off + i, none⟩ = some (.string (l.getD i ⟨#[]⟩))) :
    Txts w (.slice (some ⟨b, off, none⟩) l.length cap) l := ⟨_, cap, b, off, rfl, h1, h2, fun _ => rfl, fun i hi => later (h i hi)⟩
theorem ex3_txts (w : World) : Txts (w.alloc (.cells #[.string sHome, .string sIndex, .string sIndices] 9)) (.slice (some ⟨w.heap.size, 0, none⟩) 3 3) ex3 :=
  Txts.mk (l := ex3) (cap := 3) (by decide) (by decide) (fun i hi => by
    have hi' : i < 3 := hi
    rcases i with _ | _ | _ | i
    · simp [go_sem, ex3]
    · simp [go_sem, ex3]
    · simp [go_sem, ex3]
    · omega)
theorem New_ok (l : List ByteArray) (v : Value) (w : World) (hv : Txts w v l) (hT : Tabs w) (h : (newR l).2 = 0) :
    Calls Tryd.prog 10 #[v] w fun e w' => (∃ c b n u0 u1, e = .returned (.tuple #[.pointer (some ⟨c, 0, none⟩), .int .i64 0, .int .i64 0]) ∧ TabO w w' c b n u0 u1 l) ∧ Old w w' :=
  (New_any l v w hv hT).mono fun e w' ⟨⟨p, he, hp⟩, o⟩ => by
    rcases hp with ⟨_, c, b, n, u0, u1, rfl, ht⟩ | ⟨h', _⟩
    · rw [newR_zero h] at he
      exact ⟨⟨c, b, n, u0, u1, he, ht⟩, o⟩
    · exact absurd h h'
theorem New_no (l : List ByteArray) (v : Value) (w : World) (hv : Txts w v l) (hT : Tabs w) (h : ¬ (newR l).2 = 0) :
    Calls Tryd.prog 10 #[v] w fun e w' => e = .returned (.tuple #[.pointer none, .int .i64 (newR l).1, .int .i64 (newR l).2]) ∧ Old w w' :=
  (New_any l v w hv hT).mono fun e w' ⟨⟨p, he, hp⟩, o⟩ => by
    rcases hp with ⟨h', _⟩ | ⟨_, rfl⟩
    · exact absurd h' h
    · exact ⟨he, o⟩
set_option maxRecDepth 100000 in
set_option maxHeartbeats 3200000 in
theorem awake_any (w : World) (hT : Tabs w) : Calls Tryd.prog 9 #[] w fun e w' => e = .returned (.bool true) ∧ Old w w' := by
  have hnamed : Named ex3 := named_of (by rw [ex3_new])
  have HT := Lib.hid hT
  have H1 := Lib.hid (New_ok ex3 _ _ (ex3_txts w) (hT.old ((Old.refl w).alloc _)) (by rw [ex3_new]))
  have H2 := Lib.hid (fun V (o : Old w V) => Norm_any sMy V (hT.old o))
  simp only [nMy] at H2
  have H3 := Lib.hid (fun p V (o : Old w V) (h : Hdl V p ex3) => Find_any p ex3 sINDEX V (hT.old o) h)
  rw [ex3_find] at H3
  have H4 := Lib.hid (fun p V (o : Old w V) (h : Hdl V p ex3) => Prefix_any p ex3 hnamed sInd (by decide) V (hT.old o) h)
  have H5 := Lib.hid (fun p V (o : Old w V) (h : Hdl V p ex3) => Near_any p ex3 hnamed sHoem V (hT.old o) h)
  have H6 := Lib.hid (fun p V (h : Hdl V p ex3) => Len_any p ex3 V h)
  have Hl2 : ((prefixL ex3 sInd).map Int.ofNat).length = 2 := by rw [List.length_map]; exact ex3_prefix
  have Hl1 : ((nearL ex3 sHoem).map Int.ofNat).length = 1 := by rw [List.length_map]; exact ex3_near
  have H7 := Lib.hid (fun V => Apart_any sKitten sSitting V (by decide) (by decide))
  rw [apart_kitten] at H7
  clear hT
  go_enter Tryd.func9, Tryd.ntmps9
  go_wp2_with (first
    | (go_at_call 10; refine H1.out.mono ?_; rintro e w1 ⟨⟨c, b, n, u0, u1, rfl, ht⟩, o1⟩; have HD := Lib.hid (show Hdl w1 (some ⟨c, 0, none⟩) ex3 from .inr ⟨c, rfl, ht.tab⟩); have O1 := ((Old.refl w).alloc (.cells #[.string sHome, .string sIndex, .string sIndices] 9)).trans o1; clear ht)
    | (go_at_call 19; refine (H2.out _ O1).mono ?_; rintro e w2 ⟨rfl, o2⟩; have HD2 := Lib.hid (HD.out.old o2); have O2 := O1.trans o2)
    | (go_at_call 12; refine (H3.out _ _ O2 HD2.out).mono ?_; rintro e w3 ⟨rfl, o3⟩; have HD3 := Lib.hid (HD2.out.old o3); have O3 := O2.trans o3)
    | (go_at_call 14; refine (H4.out _ _ O3 HD3.out).mono ?_; rintro e w4 ⟨⟨y4, rfl, hy4⟩, o4⟩; obtain ⟨a4, c4, rfl, _, _⟩ := ownsRow_form hy4; have HD4 := Lib.hid (HD3.out.old o4); have O4 := O3.trans o4; clear hy4; rw [Hl2])
    | (go_at_call 13; refine (H5.out _ _ O4 HD4.out).mono ?_; rintro e w5 ⟨⟨y5, rfl, hy5⟩, o5⟩; obtain ⟨a5, c5, rfl, _, _⟩ := ownsRow_form hy5; have HD5 := Lib.hid (HD4.out.old o5); have O5 := O4.trans o5; clear hy5; rw [Hl1])
    | (go_at_call 17; refine (H7.out _).mono ?_; rintro e w6 ⟨rfl, o6⟩; have HD6 := Lib.hid (HD5.out.old o6); have O6 := O5.trans o6)
    | (go_at_call 11; refine (H6.out _ _ HD6.out).mono ?_; rintro e w7 ⟨rfl, o7⟩; have O7 := O6.trans o7))
  go_ret
  exact ⟨rfl, O7⟩
end Go.Proofs.YtpifkinlaicliaaDoor
/-
  FLAGS: rows of booleans, made and marked.
-/


namespace Go.Proofs.YtpifkinlaicliaaDoor
open Go.RowKit
def boolE : Enc Bool where
  k := 1
  enc x := [.bool x]
  len _ := rfl
  one x u hu := by
    simp only [List.mem_cons, List.not_mem_nil, or_false] at hu
    rcases hu with rfl; rfl
theorem infoBool : (Tryd.prog.info? 4).map (fun i => (i.zero, i.size, i.bytes)) = some (some (.bool false), 1, 1) := by kernel_rfl
section
variable {P : Program} {ops : Array Oper} {rest : List Oper} {o : Oper} {a : Act} {Q : Exit → Act → World → Prop}
theorem wpList_make_enc {α : Type} {c : Enc α} {w0 w : World} (hg : o.guard = none) (l cc : Operand) (T : TypeId) (hop : o.op = Op.makeSlice T l cc) (E : TypeId) (ht : P.underlying T = some (.slice E)) (zv : Value) {bytes : Nat}
    (hinfo : (P.info? E).map (fun i => (i.zero, i.size, i.bytes)) = some (some zv, 1, bytes)) (hcz : zv.cells = #[zv]) (hk : c.k = 1) (z0 : α) (hz : c.enc z0 = [zv]) (n : Nat) (hl : a.eval l = .int .i64 n) (hc : a.eval cc = .int .i64 n) (hn : n * bytes ≤ 140737488355328) (hn2 : n ≤ 1073741824) (hold : Old w0 w)
    (hK : ∀ w', OwnS c E w0 w' (.slice (some ⟨w.heap.size, 0, none⟩) n n) (List.replicate n z0) → Old w w' → w.heap.size < w'.heap.size → wpList P ops Q rest (a.put o.dst (.slice (some ⟨w.heap.size, 0, none⟩) n n)) w') : wpList P ops Q (o :: rest) a w := by
  obtain ⟨i, hi, hz0, hz1, hz2⟩ := info_parts hinfo
  refine wpList_make_full w hg l cc T hop w0.heap.size E i zv 1 ht hi hz0 hz1 .i64 .i64 n n n hl hc rfl rfl (by rw [hz2]; first | omega | (rw [Nat.mul_comm]; omega)) (by simp [maxLen]; omega) hold.size fun w' h1 h2 => ?_
  refine hK w' ?_ ⟨h2.os, h2.tape, h2.output, h2.size, fun k hk => h2.block k hk (by simp)⟩ (h1.lt _ rfl).2
  unfold OwnS
  rw [List.length_replicate, hk]
  have e : c.all (List.replicate n z0) = List.replicate n zv := by
    clear h1 h2 hK hl hc hn hn2
    induction n with
    | zero => rfl
    | succ n ih => rw [List.replicate_succ, Enc.all_cons, ih, hz]; rfl
  rw [e]
  simpa [toList_madeCells_one, hcz] using h1
end
/-- which numbers below n stand in a list -/
def flagsL (n : Nat) (l : List Nat) : List Bool := (List.range n).map fun i => decide (i ∈ l)
theorem flagsL_len (n : Nat) (l : List Nat) : (flagsL n l).length = n := by simp [flagsL]
theorem flagsL_nil (n : Nat) : flagsL n [] = List.replicate n false := by
  unfold flagsL
  refine List.ext_getElem (by simp) fun k h1 h2 => by simp
theorem flagsL_get {n : Nat} {l : List Nat} {i : Nat} (h : i < n) : (flagsL n l)[i]? = some (decide (i ∈ l)) := by
  unfold flagsL
  rw [List.getElem?_map, List.getElem?_range h]; rfl
theorem flagsL_set {n : Nat} {l : List Nat} {i : Nat} : (flagsL n l).set i true = flagsL n (l ++ [i]) := by
  refine List.ext_getElem? fun k => ?_
  rw [List.getElem?_set]
  rcases Nat.lt_or_ge k n with h | h
  · rw [flagsL_get h, flagsL_get h]
    by_cases e : i = k
    · subst e; simp [flagsL_len, h]
    · rw [if_neg e]
      congr 1
      rw [decide_eq_decide, List.mem_append, List.mem_singleton]
      exact ⟨.inl, fun h => h.resolve_right (fun e2 => e e2.symm)⟩
  · rw [List.getElem?_eq_none (by rw [flagsL_len]; exact h), List.getElem?_eq_none (by rw [flagsL_len]; exact h)]
    split
    · rename_i e
      rw [if_neg (by rw [flagsL_len]; omega)]
    · rfl
end Go.Proofs.YtpifkinlaicliaaDoor
/-
  TEXT, DIGITS: digits among bytes and among characters, over no program.
-/



namespace Go.Proofs.YtpifkinlaicliaaDoor
open Go.RowKit

theorem drop_cons {l : List UInt8} {p : Nat} (hp : p < l.length) : l.drop p = l.getD p 0 :: l.drop (p + 1) := by
  rw [List.drop_eq_getElem_cons hp, List.getD_eq_getElem?_getD, List.getElem?_eq_getElem hp]; rfl
/-- a byte below 128 is a character -/
theorem chR_byte {l : List UInt8} {p : Nat} (hp : p < l.length) (h : (l.getD p 0).toNat < 128) : chR l p = (l.getD p 0).toNat ∧ chN l p = 1 := by
  unfold chR chN
  rw [drop_cons hp, Lib.decodeL_ascii _ _ h]
  exact ⟨rfl, rfl⟩
/-- a character below 128 is a byte -/
theorem chR_small {l : List UInt8} {p : Nat} (hp : p < l.length) (h : chR l p < 128) : (l.getD p 0).toNat = chR l p := by
  have hne : l.drop p ≠ [] := by
    intro e
    have := congrArg List.length e
    simp at this; omega
  have he : Lib.encodeRune (chR l p : Int) = (l.drop p).take (chN l p) := Lib.encode_decode (l.drop p) hne (fun k => by unfold chR at h; omega)
  rw [chN_ascii hp h] at he
  generalize chR l p = r at *
  unfold Lib.encodeRune at he
  rw [Lib.encodeRuneZ_one (by omega) (by omega), drop_cons hp] at he
  simp at he
  rw [List.getD_eq_getElem?_getD, ← he]
  simp
  omega
theorem digit_iff {l : List UInt8} {p : Nat} (hp : p < l.length) : inR (chR l p) 48 57 = isDg (l.getD p 0) := by
  rw [Bool.eq_iff_iff, inR_iff]
  unfold isDg
  simp only [Bool.and_eq_true, decide_eq_true_eq]
  constructor
  · rintro ⟨h1, h2⟩
    have := chR_small hp (by omega)
    omega
  · rintro ⟨h1, h2⟩
    have := (chR_byte hp (by omega)).1
    omega
theorem dgN_cons (b : UInt8) (l : List UInt8) : dgN (b :: l) = if isDg b then dgN l + 1 else 0 := by
  unfold dgN
  rw [List.takeWhile_cons]
  split <;> simp
theorem dgAt_on {s : ByteArray} {p : Nat} (hp : p < s.size) (h : isDg (s.data.toList.getD p 0) = true) : dgAt s p = dgAt s (p + 1) + 1 := by
  unfold dgAt
  rw [drop_cons (by rw [str_len]; exact hp), dgN_cons, if_pos h]
theorem dgAt_off {s : ByteArray} {p : Nat} (hp : p < s.size) (h : isDg (s.data.toList.getD p 0) = false) : dgAt s p = 0 := by
  unfold dgAt
  rw [drop_cons (by rw [str_len]; exact hp), dgN_cons, if_neg (by rw [h]; decide)]
theorem dgAt_end {s : ByteArray} {p : Nat} (hp : ¬ p < s.size) : dgAt s p = 0 := by
  unfold dgAt
  rw [List.drop_eq_nil_of_le (by rw [str_len]; omega)]; rfl
/-- the digits from p to q without noughts ahead, as bytes -/
def trimL (s : ByteArray) (p q : Nat) : List UInt8 := Lib.trimLeftB (s.extract p q).data.toList 48
theorem trimL_zero (s : ByteArray) (p : Nat) : trimL s p p = [] := by
  unfold trimL
  rw [extract_list, List.drop_eq_nil_of_le (by rw [List.length_take]; omega)]; rfl
theorem trimL_succ {s : ByteArray} {p q : Nat} (hpq : p ≤ q) (hq : q < s.size) :
    trimL s p (q + 1) = if trimL s p q = [] ∧ s.data.toList.getD q 0 = 48 then [] else trimL s p q ++ [s.data.toList.getD q 0] := by
  have h' : q < s.data.toList.length := by rw [str_len]; exact hq
  have he : (s.extract p (q + 1)).data.toList = (s.extract p q).data.toList ++ [s.data.toList.getD q 0] := by
    rw [extract_list, extract_list, List.take_succ_eq_append_getElem h', List.drop_append_of_le_length (by rw [List.length_take]; omega), List.getD_eq_getElem?_getD, List.getElem?_eq_getElem h']
    rfl
  unfold trimL Lib.trimLeftB
  rw [he, List.dropWhile_append]
  by_cases h : ((s.extract p q).data.toList.dropWhile (· == 48)).isEmpty = true
  · rw [if_pos h]
    have h0 : (s.extract p q).data.toList.dropWhile (· == 48) = [] := List.isEmpty_iff.1 h
    rw [h0]
    by_cases k : s.data.toList.getD q 0 = 48
    · rw [if_pos ⟨rfl, k⟩, k]; rfl
    · rw [if_neg (fun x => k x.2)]
      rw [List.dropWhile_cons, if_neg (by simpa using k)]; rfl
  · rw [if_neg h, if_neg (fun x => h (by rw [x.1]; rfl))]
theorem trimN_eq (s : ByteArray) (p q : Nat) : trimN s p q = strB (trimL s p q) := rfl
end Go.Proofs.YtpifkinlaicliaaDoor
