/-
  FAULTS AND DIRECTORIES THAT ARE THE SAME.
-/
import Derived.Test.YtpifkinlaicliaaGreatDoorZColR
import Derived.BigQuiet
import Derived.Test.YtpifkinlaicliaaGreatDoorZMapsT
import Derived.Lib.TrimAscii
namespace Go.Proofs.YtpifkinlaicliaaGreatDoor
open Go.RowKit
attribute [local go_sem] Old.refl Old.alloc Old.drew Old.setCell OldW.old

set_option maxHeartbeats 800000 in
theorem All_nil (w : World) : Calls Tryz.prog 44 #[.nilIface] w fun e w' => e = .returned (.slice none 0 0) ∧ Old w w' := by
  go_enter Tryz.func44, Tryz.ntmps44
  go_wp2_with fail
  go_ret
  exact ⟨rfl, Old.refl _⟩
set_option maxRecDepth 100000 in
set_option maxHeartbeats 1600000 in
theorem Told_nil (w : World) : Calls Tryz.prog 25 #[.nilIface] w fun e w' => e = .returned (.agg (fltC ⟨0, 0, 0, 0, ⟨#[]⟩⟩).toArray) ∧ Old w w' := by
  have HA := Lib.hid (fun V => All_nil V)
  go_enter Tryz.func25, Tryz.ntmps25
  go_wp2_with fail
  refine (HA.out _).mono ?_
  rintro e w1 ⟨rfl, ho⟩
  have k0 : w.heap.size < w1.heap.size := by have := ho.size; simp [go_sem] at this; omega
  have c0 := ho.cell (p := ⟨w.heap.size, 0, none⟩) (by simp [go_sem]; rfl)
  have c1 := ho.cell (p := ⟨w.heap.size, 1, none⟩) (by simp [go_sem]; rfl)
  have c2 := ho.cell (p := ⟨w.heap.size, 2, none⟩) (by simp [go_sem]; rfl)
  have c3 := ho.cell (p := ⟨w.heap.size, 3, none⟩) (by simp [go_sem]; rfl)
  have c4 := ho.cell (p := ⟨w.heap.size, 4, none⟩) (by simp [go_sem]; rfl)
  have c5 := ho.cell (p := ⟨w.heap.size, 5, none⟩) (by simp [go_sem]; rfl)
  have hf : ∀ j, w1.frozen? ⟨w.heap.size, j, none⟩ = false := fun j => by
    rw [frozen_old ho (by simp [go_sem])]
    simp [go_sem]
  go_wp2_with fail
  (try simp only [Exit.inBlock, Exit.then])
  refine bodyPost_ret (v := .agg (fltC ⟨0, 0, 0, 0, ⟨#[]⟩⟩).toArray) (by simp [results, Tryz.results25, go_sem, c0, c1, c2, c3, c4, c5, fltC]) rfl ⟨rfl, ?_⟩
  have ho' := (((Old.refl w).alloc _).trans ho)
  exact (((((ho'.setCell (Nat.le_refl _) _).setCell (Nat.le_refl _) _).setCell (Nat.le_refl _) _).setCell (Nat.le_refl _) _).setCell (Nat.le_refl _) _).setCell (Nat.le_refl _) _
set_option maxRecDepth 100000 in
set_option maxHeartbeats 1600000 in
theorem RSameF_any (f : Flt) (w : World) : Calls Tryz.prog 24 #[.agg (fltC f).toArray, .agg (fltC f).toArray] w fun e w' => e = .returned (.bool true) ∧ Old w w' := by
  have hs : (f.word.toList == f.word.toList) = true := by simp
  unfold fltC
  go_enter Tryz.func24, Tryz.ntmps24
  go_wp2_with fail
  refine wp_loop_rounds 1 ?_
  rw [rounds_succ]
  go_wp2_with fail
  go_ret
  exact ⟨rfl, ((Old.refl w).alloc _).alloc _⟩
set_option maxRecDepth 100000 in
set_option maxHeartbeats 1600000 in
theorem Same7_any (u v : Value) (l : List Dn) (w : World) (hu : Recs dnE w u l) (hv : Recs dnE w v l) : Calls Tryz.prog 26 #[u, v] w fun e w' => e = .returned (.bool true) ∧ Old w w' := by
  obtain ⟨a, cap, rfl, hc1, hc2⟩ := Recs.form hu
  obtain ⟨a', cap', rfl, hc1', hc2'⟩ := Recs.form hv
  obtain ⟨b, off, ha, hat⟩ := Dn2.open hu
  obtain ⟨b', off', ha', hat'⟩ := Dn2.open hv
  have Ha := Lib.hid ha
  have Hat := Lib.hid hat
  have Ha' := Lib.hid ha'
  have Hat' := Lib.hid hat'
  clear hu hv ha hat ha' hat'
  go_enter Tryz.func26, Tryz.ntmps26
  go_wp2_with fail
  go_loopw [13] (fun j wr => ∃ i : Nat, j = .int .i64 i ∧ i ≤ l.length ∧ Old w wr) (fun j _ => l.length - (intOf j).toNat)
  case atStart => exact ⟨0, rfl, Nat.zero_le _, Old.refl _⟩
  case round =>
    obtain ⟨i, rfl, hi, ho⟩ := hrel
    by_cases hlt : i < l.length
    · have hi1 : (i : Int) < l.length := by omega
      obtain ⟨d, hd⟩ : ∃ d, l[i]? = some d := ⟨_, List.getElem?_eq_getElem hlt⟩
      obtain rfl := Ha.out (by omega)
      obtain rfl := Ha'.out (by omega)
      have c := fun V (o : Old wr V) => Hat.out i d hd V (ho.trans o)
      have c' := fun V (o : Old wr V) => Hat'.out i d hd V (ho.trans o)
      have c0 := fun V (o : Old wr V) => (c V o).1
      have c1 := fun V (o : Old wr V) => (c V o).2.1
      have c2 := fun V (o : Old wr V) => (c V o).2.2.1
      have c3 := fun V (o : Old wr V) => (c V o).2.2.2.1
      have c4 := fun V (o : Old wr V) => (c V o).2.2.2.2.1
      have c5 := fun V (o : Old wr V) => (c V o).2.2.2.2.2
      have d0 := fun V (o : Old wr V) => (c' V o).1
      have d1 := fun V (o : Old wr V) => (c' V o).2.1
      have d2 := fun V (o : Old wr V) => (c' V o).2.2.1
      have d3 := fun V (o : Old wr V) => (c' V o).2.2.2.1
      have d4 := fun V (o : Old wr V) => (c' V o).2.2.2.2.1
      have d5 := fun V (o : Old wr V) => (c' V o).2.2.2.2.2
      clear c c' hd
      go_upto_region 6 with fail
      go_quiet (fail)
      go_wp2_with fail
      go_roundw
      case rel => exact ⟨i + 1, by go_num, by omega, ho.trans (show Below wr.heap.size wr _ from ⟨rfl, rfl, rfl, Nat.le_refl _, fun _ _ => rfl⟩)⟩
      case measure => simp [intOf]; omega
    · obtain rfl : i = l.length := by omega
      have hi1 : ¬ (l.length : Int) < l.length := by omega
      go_wp2_with fail
      go_ret
      exact ⟨rfl, ho⟩
end Go.Proofs.YtpifkinlaicliaaGreatDoor
/-
  TEXTS OF ASCII, PLAIN: folded, plain, their characters, by simple recursion.
-/


namespace Go.Proofs.YtpifkinlaicliaaGreatDoor
open Go.RowKit

def Asc (l : List UInt8) : Prop := ∀ b ∈ l, 32 ≤ b.toNat ∧ b.toNat < 127
theorem Asc.of (l : List UInt8) (h : l.all (fun b => decide (32 ≤ b.toNat) && decide (b.toNat < 127)) = true) : Asc l := fun b hb => by
  have := List.all_eq_true.1 h b hb
  simpa using this
def lowB (b : UInt8) : UInt8 := (smallC (b.toNat : Int)).toNat.toUInt8
/-- folded, from the rest on -/
def foldA : List UInt8 → Bool → List UInt8 → List UInt8
  | [], _, t => t
  | b :: r, wt, t => if b.toNat = 32 then foldA r (decide (0 < t.length)) t else foldA r false ((if wt then t ++ [32] else t) ++ [lowB b])
section
variable {l r : List UInt8} {p : Nat} {b : UInt8}
theorem asc_at (h : Asc l) (hd : l.drop p = b :: r) : chR l p = b.toNat ∧ chN l p = 1 ∧ badC l p = false ∧ l.drop (p + 1) = r ∧ p < l.length ∧ 32 ≤ b.toNat ∧ b.toNat < 127 := by
  have hb : b ∈ l := List.mem_of_mem_drop (i := p) (by rw [hd]; simp)
  have h1 := h b hb
  have hde := Lib.decodeL_ascii b r (by omega)
  have hr : chR l p = b.toNat := by unfold chR; rw [hd, hde]
  have hn : chN l p = 1 := by unfold chN; rw [hd, hde]
  have hp : p < l.length := by
    rcases Nat.lt_or_ge p l.length with c | c
    · exact c
    · rw [List.drop_of_length_le c] at hd; cases hd
  refine ⟨hr, hn, ?_, ?_, hp, h1⟩
  · unfold badC
    rw [hr]
    have : (b.toNat == 65533) = false := by simp; omega
    rw [this]; rfl
  · rw [← List.drop_drop, hd]; rfl
theorem small_asc (h : b.toNat < 127) : 0 ≤ smallC (b.toNat : Int) ∧ smallC (b.toNat : Int) ≤ 127 := by
  unfold smallC
  split
  · omega
  · split <;> omega
theorem foldGo_asc {s : ByteArray} (h : Asc s.data.toList) : ∀ (r : List UInt8) (p : Nat) (wt : Bool) (t : List UInt8), s.data.toList.drop p = r → foldGo s p wt t = foldA r wt t
  | [], p, wt, t, hd => by
    have : ¬ p < s.size := by
      intro hp
      have := congrArg List.length hd
      rw [List.length_drop, str_len] at this
      simp at this; omega
    rw [foldGo_end this]; rfl
  | b :: r, p, wt, t, hd => by
    obtain ⟨h1, h2, h3, h4, h5, h6, h7⟩ := asc_at h hd
    rw [str_len] at h5
    unfold foldA
    by_cases e : b.toNat = 32
    · rw [if_pos e, foldGo_sp h5 (h1.trans e)]
      exact foldGo_asc h r (p + 1) _ _ h4
    · have hc : foldC s p = [lowB b] := by
        unfold foldC
        rw [h3, h1]
        have := small_asc (b := b) h7
        show Lib.encodeRune (smallC (b.toNat : Int)) = _
        unfold Lib.encodeRune
        rw [Lib.encodeRuneZ_one this.1 this.2]
        rfl
      rw [if_neg e, foldGo_on h5 (by rw [h1]; exact e), h2, hc]
      exact foldGo_asc h r (p + 1) _ _ h4
theorem foldS_asc {s : ByteArray} (h : Asc s.data.toList) : foldS s = ⟨(foldA s.data.toList false []).toArray⟩ := by
  unfold foldS foldB
  rw [foldGo_asc h s.data.toList 0 false [] rfl]
theorem plainAt_asc (h : Asc l) : ∀ (r : List UInt8) (p : Nat), l.drop p = r → plainAt l p = (0, true)
  | [], p, hd => by
    have : ¬ p < l.length := by
      intro hp
      have := congrArg List.length hd
      rw [List.length_drop] at this
      simp at this; omega
    exact plainAt_end this
  | b :: r, p, hd => by
    obtain ⟨h1, h2, h3, h4, h5, h6, h7⟩ := asc_at h hd
    have hc : (ctlR (chR l p) || badC l p) = false := by
      rw [h3, h1, Bool.or_false]
      unfold ctlR
      have a1 : decide (((b.toNat : Nat) : Int) < 32) = false := by rw [decide_eq_false_iff_not]; omega
      have a2 : decide ((127 : Int) ≤ ((b.toNat : Nat) : Int)) = false := by rw [decide_eq_false_iff_not]; omega
      rw [a1, a2]; rfl
    rw [plainAt_on h5 hc, h2]
    exact plainAt_asc h r (p + 1) h4
theorem charsAt_asc (h : Asc l) : ∀ (r : List UInt8) (p : Nat), l.drop p = r → (charsAt l p).map (fun c => (c.r : Int)) = r.map fun b => (b.toNat : Int)
  | [], p, hd => by
    have : ¬ p < l.length := by
      intro hp
      have := congrArg List.length hd
      rw [List.length_drop] at this
      simp at this; omega
    rw [charsAt_end this]; rfl
  | b :: r, p, hd => by
    obtain ⟨h1, h2, h3, h4, h5, h6, h7⟩ := asc_at h hd
    rw [charsAt_on h5, h2, List.map_cons, List.map_cons, charsAt_asc h r (p + 1) h4]
    dsimp only
    rw [h1]
end
theorem runesI_asc {s : ByteArray} (h : Asc s.data.toList) : runesI s = s.data.toList.map fun b => (b.toNat : Int) := charsAt_asc h _ 0 rfl
theorem normR_asc {s : ByteArray} (h : Asc s.data.toList) (h64 : s.size ≤ 64) (hf : foldA s.data.toList false [] ≠ []) : normR s = (⟨(foldA s.data.toList false []).toArray⟩, 0) := by
  have hne : ¬ foldS s = ⟨#[]⟩ := by
    rw [foldS_asc h]
    intro e
    have e1 := congrArg (fun x : ByteArray => x.data.toList) e
    exact hf (by simpa using e1)
  unfold normR
  rw [if_neg (by omega), plainAt_asc h s.data.toList 0 rfl, if_neg (by decide), if_neg hne, foldS_asc h]

/-! ### the chapter's second example -/
def sHome : ByteArray := ⟨#[72, 111, 109, 101]⟩
def sIndex : ByteArray := ⟨#[73, 110, 100, 101, 120]⟩
def sIndices : ByteArray := ⟨#[73, 110, 100, 105, 99, 101, 115]⟩
def sINDEX : ByteArray := ⟨#[73, 78, 68, 69, 88]⟩
def sMy : ByteArray := ⟨#[32, 32, 77, 121, 32, 32, 32, 84, 111, 112, 105, 99, 32]⟩
def sInd : ByteArray := ⟨#[105, 110, 100]⟩
def sHoem : ByteArray := ⟨#[104, 111, 101, 109]⟩
def sKitten : ByteArray := ⟨#[107, 105, 116, 116, 101, 110]⟩
def sSitting : ByteArray := ⟨#[115, 105, 116, 116, 105, 110, 103]⟩
def ex3 : List ByteArray := [sHome, sIndex, sIndices]
theorem nHome : normR sHome = (⟨#[104, 111, 109, 101]⟩, 0) := by rw [normR_asc (.of _ (by decide)) (by decide) (by decide)]; rfl
theorem nIndex : normR sIndex = (⟨#[105, 110, 100, 101, 120]⟩, 0) := by rw [normR_asc (.of _ (by decide)) (by decide) (by decide)]; rfl
theorem nIndices : normR sIndices = (⟨#[105, 110, 100, 105, 99, 101, 115]⟩, 0) := by rw [normR_asc (.of _ (by decide)) (by decide) (by decide)]; rfl
theorem nINDEX : normR sINDEX = (⟨#[105, 110, 100, 101, 120]⟩, 0) := by rw [normR_asc (.of _ (by decide)) (by decide) (by decide)]; rfl
theorem nMy : normR sMy = (⟨#[109, 121, 32, 116, 111, 112, 105, 99]⟩, 0) := by rw [normR_asc (.of _ (by decide)) (by decide) (by decide)]; rfl
theorem nHoem : normR sHoem = (⟨#[104, 111, 101, 109]⟩, 0) := by rw [normR_asc (.of _ (by decide)) (by decide) (by decide)]; rfl
theorem ex3_nrm : ex3.map nrm = [⟨#[104, 111, 109, 101]⟩, ⟨#[105, 110, 100, 101, 120]⟩, ⟨#[105, 110, 100, 105, 99, 101, 115]⟩] := by
  show [nrm sHome, nrm sIndex, nrm sIndices] = _
  unfold nrm
  rw [nHome, nIndex, nIndices]
theorem ex3_new : newR ex3 = (0, 0) := by
  unfold newR
  rw [if_neg (by decide)]
  unfold ex3
  rw [newAt_on (by rw [nHome]) (by simp), newAt_on (by rw [nIndex]) (findN_none.1 (by unfold nrm; rw [nHome, nIndex]; rfl)), newAt_on (by rw [nIndices]) (findN_none.1 (by unfold nrm; rw [nHome, nIndex, nIndices]; rfl))]
  rfl
theorem ex3_find : findR ex3 sINDEX = some 1 := by
  unfold findR
  rw [if_pos (by rw [nINDEX]), ex3_nrm]
  unfold nrm
  rw [nINDEX]
  decide
/-! ### the table reckoned row by row -/
def nxRow (c : Int) : List Int → List Nat → Nat → List Nat
  | y :: ys, a :: b :: r, left => min (a + if c = y then 0 else 1) (min (b + 1) (left + 1)) :: nxRow c ys (b :: r) (min (a + if c = y then 0 else 1) (min (b + 1) (left + 1)))
  | _, _, _ => []
def rowN (x y : List Int) (i : Nat) : List Nat := (List.range (y.length + 1)).map (lev x y i)
theorem rowN_drop {x y : List Int} {i k : Nat} (hk : k ≤ y.length) : (rowN x y i).drop k = lev x y i k :: (rowN x y i).drop (k + 1) := by
  rw [List.drop_eq_getElem_cons (by simp [rowN]; omega)]
  simp [rowN]
theorem nxRow_eq {x y : List Int} {i : Nat} : ∀ (d k : Nat), y.length - k = d → k ≤ y.length → nxRow (x.getD i 0) (y.drop k) ((rowN x y i).drop k) (lev x y (i + 1) k) = (rowN x y (i + 1)).drop (k + 1)
  | 0, k, hd, hk => by
    rw [List.drop_of_length_le (show y.length ≤ k by omega), List.drop_of_length_le (show (rowN x y (i + 1)).length ≤ k + 1 by simp [rowN]; omega)]
    cases (rowN x y i).drop k <;> rfl
  | d + 1, k, hd, hk => by
    have hlt : k < y.length := by omega
    have hy : y.drop k = y.getD k 0 :: y.drop (k + 1) := by
      rw [List.drop_eq_getElem_cons hlt]; simp [List.getD, hlt]
    rw [hy, rowN_drop (x := x) (i := i) hk, rowN_drop (x := x) (i := i) (show k + 1 ≤ y.length by omega), rowN_drop (x := x) (i := i + 1) (show k + 1 ≤ y.length by omega), nxRow, ← lev_ss]
    rw [← rowN_drop (x := x) (i := i) (show k + 1 ≤ y.length by omega), nxRow_eq d (k + 1) (by omega) (by omega)]
def lastRow (y : List Int) : List Int → Nat → List Nat → List Nat
  | [], _, r => r
  | c :: xs, i, r => lastRow y xs (i + 1) ((i + 1) :: nxRow c y r (i + 1))
theorem lastRow_eq {x y : List Int} : ∀ (xs : List Int) (i : Nat), x.drop i = xs → i ≤ x.length → lastRow y xs i (rowN x y i) = rowN x y x.length
  | [], i, h, hi => by
    have := congrArg List.length h
    rw [List.length_drop] at this
    simp at this
    rw [show i = x.length by omega]; rfl
  | c :: xs, i, h, hi => by
    have hlt : i < x.length := by
      have := congrArg List.length h
      rw [List.length_drop] at this
      simp at this; omega
    have hc : x.getD i 0 = c := by
      rw [List.drop_eq_getElem_cons hlt] at h
      simp only [List.getD, List.getElem?_eq_getElem hlt, Option.getD_some]
      exact (List.cons.inj h).1
    have hx : x.drop (i + 1) = xs := by
      rw [List.drop_eq_getElem_cons hlt] at h
      exact (List.cons.inj h).2
    have h0 := nxRow_eq (x := x) (y := y) (i := i) y.length 0 (by omega) (Nat.zero_le _)
    rw [lev_0r, hc, List.drop_zero, List.drop_zero] at h0
    have h1 := rowN_drop (x := x) (y := y) (i := i + 1) (k := 0) (Nat.zero_le _)
    rw [List.drop_zero, lev_0r, ← h0] at h1
    unfold lastRow
    rw [← h1]
    exact lastRow_eq xs (i + 1) hx (by omega)
theorem levL_rows (x y : List Int) : levL x y = (lastRow y x 0 (List.range (y.length + 1))).getD y.length 0 := by
  have h := lastRow_eq (x := x) (y := y) x 0 rfl (Nat.zero_le _)
  have h0 : rowN x y 0 = List.range (y.length + 1) := by
    unfold rowN
    refine List.ext_getElem (by simp) fun k h1 h2 => ?_
    simp [lev_0l]
  rw [h0] at h
  rw [h]
  unfold levL rowN
  simp [List.getD]
theorem apartS_asc {s t : ByteArray} (hs : Asc s.data.toList) (ht : Asc t.data.toList) : apartS s t = (lastRow (t.data.toList.map fun b => (b.toNat : Int)) (s.data.toList.map fun b => (b.toNat : Int)) 0 (List.range ((t.data.toList.map fun b => (b.toNat : Int)).length + 1))).getD (t.data.toList.map fun b => (b.toNat : Int)).length 0 := by
  unfold apartS
  rw [runesI_asc hs, runesI_asc ht, levL_rows]
theorem apart_kitten : levL (runesI sKitten) (runesI sSitting) = 3 := (apartS_asc (s := sKitten) (t := sSitting) (.of _ (by decide)) (.of _ (by decide))).trans (by decide)
theorem at3 : nmAt ex3 0 = sHome ∧ nmAt ex3 1 = sIndex ∧ nmAt ex3 2 = sIndices := ⟨rfl, rfl, rfl⟩
theorem ex3_prefix : (prefixL ex3 sInd).length = 2 := by
  have hf : foldS sInd = ⟨#[105, 110, 100]⟩ := by rw [foldS_asc (.of _ (by decide))]; rfl
  have hp : (plainAt sInd.data.toList 0).2 = true := by rw [plainAt_asc (.of _ (by decide)) sInd.data.toList 0 rfl]
  unfold prefixL
  rw [if_neg (by rw [hp]; decide), hf]
  unfold sortedL
  rw [((sortTo_perm (c := cN ex3) ex3.length).filter _).length_eq]
  show (List.filter (fun i => begins (nrm (nmAt ex3 i)) ⟨#[105, 110, 100]⟩) [0, 1, 2]).length = 2
  unfold nrm
  simp only [List.filter_cons, at3.1, at3.2.1, at3.2.2, nHome, nIndex, nIndices]
  rfl
theorem ex3_near : (nearL ex3 sHoem).length = 1 := by
  have d0 : apartS (nrm sHoem) (nrm (nmAt ex3 0)) = 2 := by rw [at3.1]; unfold nrm; rw [nHoem, nHome]; exact (apartS_asc (.of _ (by decide)) (.of _ (by decide))).trans (by decide)
  have d1 : apartS (nrm sHoem) (nrm (nmAt ex3 1)) = 4 := by rw [at3.2.1]; unfold nrm; rw [nHoem, nIndex]; exact (apartS_asc (.of _ (by decide)) (.of _ (by decide))).trans (by decide)
  have d2 : apartS (nrm sHoem) (nrm (nmAt ex3 2)) = 6 := by rw [at3.2.2]; unfold nrm; rw [nHoem, nIndices]; exact (apartS_asc (.of _ (by decide)) (.of _ (by decide))).trans (by decide)
  unfold nearL
  rw [if_pos (by rw [nHoem]), nearF_eq]
  unfold sortedL
  rw [leastF_perm (sortTo_perm (c := cN ex3) ex3.length)]
  have hl : leastF (fun i => apartS (nrm sHoem) (nrm (nmAt ex3 i))) (List.range ex3.length) = 2 := by
    show leastF _ [0, 1, 2] = 2
    unfold leastF
    simp only [List.foldl_cons, List.foldl_nil, d0, d1, d2]
    rfl
  rw [hl, ((sortTo_perm (c := cN ex3) ex3.length).filter _).length_eq]
  show (List.filter (fun i => decide (2 < 4) && decide (apartS (nrm sHoem) (nrm (nmAt ex3 i)) = 2)) [0, 1, 2]).length = 1
  simp only [List.filter_cons, d0, d1, d2]
  rfl
end Go.Proofs.YtpifkinlaicliaaGreatDoor
