/-
  TEXT, FOLD, PLAIN: a text's pieces (each a character's bytes); what folding makes of them; folded once is folded; small letters and more blanks make no other.
-/
import Derived.Test.YtohngjkedhpikaaGreatDoorZTocFault
import Derived.Test.YtohngjkedhpikaaGreatDoorZTextJoin
import Derived.Test.YtohngjkedhpikaaGreatDoorZTextDigits
namespace Go.Proofs.YtohngjkedhpikaaGreatDoor
open Go.RowKit

/-! ### what follows a character -/
def isCont (b : UInt8) : Bool := b.toNat / 64 == 2
def contP (l : List UInt8) : List UInt8 := l.takeWhile isCont
theorem leads_of {l : List UInt8} (h : l.head?.all (fun b => !isCont b) = true) : leads l := by
  unfold leads
  cases l with
  | nil => decide
  | cons b t =>
    simp [isCont] at h
    simpa using h
theorem drop_leads (l : List UInt8) : leads (l.dropWhile isCont) := by
  refine leads_of ?_
  cases h : l.dropWhile isCont with
  | nil => rfl
  | cons b t =>
    have := List.head?_dropWhile_not isCont l
    rw [h] at this
    simpa using this
theorem decode_conts {P r : List UInt8} (h : P ≠ []) : Lib.decodeL (P ++ r) = Lib.decodeL (P ++ contP r) := by
  have e : P ++ r = (P ++ contP r) ++ r.dropWhile isCont := by
    unfold contP
    rw [List.append_assoc, List.takeWhile_append_dropWhile]
  rw [e, decodeL_lead (by simp [h]) (drop_leads r)]
theorem decode_same {P r r' : List UInt8} (h : P ≠ []) (hc : contP r = contP r') : Lib.decodeL (P ++ r) = Lib.decodeL (P ++ r') := by
  rw [decode_conts h, decode_conts (r := r') h, hc]
theorem contP_nil : contP [] = [] := rfl
theorem contP_cons (b : UInt8) (l : List UInt8) : contP (b :: l) = if isCont b then b :: contP l else [] := by
  unfold contP
  rw [List.takeWhile_cons]
set_option maxRecDepth 100000 in
set_option maxHeartbeats 4000000 in
theorem decodeN_whole (n m b0 b1 b2 b3 c1 c2 c3 : Nat) (_ : 1 ≤ n) (hm : n ≤ m) (e1 : 1 < n → c1 = b1) (e2 : 2 < n → c2 = b2) (e3 : 3 < n → c3 = b3) (h : ¬ ((Lib.decodeN n b0 b1 b2 b3).1 = 65533 ∧ (Lib.decodeN n b0 b1 b2 b3).2 = 1)) :
    Lib.decodeN m b0 c1 c2 c3 = Lib.decodeN n b0 b1 b2 b3 := by
  rcases Lib.decodeN_shape n b0 b1 b2 b3 with ⟨c, e⟩ | ⟨k1, k2, k3, kv, e⟩ | ⟨k1, k2, k3, k4, kv, ks, e⟩ | ⟨k1, k2, k3, k4, k5, kv, kw, e⟩ | e
  · rw [e]; unfold Lib.decodeN; rw [if_pos c]
  · obtain rfl := e1 (by omega)
    rw [e]; unfold Lib.decodeN
    rw [if_neg (by omega), if_pos ⟨k1, by omega, k3⟩, if_pos (by omega)]
  · obtain rfl := e1 (by omega)
    obtain rfl := e2 (by omega)
    rw [e]; unfold Lib.decodeN
    rw [if_neg (by omega), if_neg (by omega), if_pos ⟨k1, ⟨by omega, k3⟩, by omega, k4⟩, if_pos (by omega)]
  · obtain rfl := e1 (by omega)
    obtain rfl := e2 (by omega)
    obtain rfl := e3 (by omega)
    rw [e]; unfold Lib.decodeN
    rw [if_neg (by omega), if_neg (by omega), if_neg (by omega), if_pos ⟨k1, ⟨by omega, k3⟩, ⟨by omega, k4⟩, by omega, k5⟩, if_pos (by omega)]
  · rw [e] at h; exact absurd ⟨rfl, rfl⟩ h
/-- no character, but a byte that begins none -/
def badP (P : List UInt8) : Prop := (Lib.decodeL P).1 = 65533 ∧ (Lib.decodeL P).2 = 1
instance (P : List UInt8) : Decidable (badP P) := inferInstanceAs (Decidable (_ ∧ _))
theorem decode_whole {P r : List UInt8} (h : P ≠ []) (hb : ¬ badP P) : Lib.decodeL (P ++ r) = Lib.decodeL P := by
  have hl : 0 < P.length := List.length_pos_iff.2 h
  unfold badP at hb
  rw [Lib.decodeL_N] at hb
  rw [Lib.decodeL_N, Lib.decodeL_N P, getD_app1 hl]
  exact decodeN_whole P.length (P ++ r).length _ _ _ _ _ _ _ (by omega) (by rw [List.length_append]; omega) (fun k => congrArg UInt8.toNat (getD_app1 k)) (fun k => congrArg UInt8.toNat (getD_app1 k)) (fun k => congrArg UInt8.toNat (getD_app1 k)) hb
theorem good_head {P : List UInt8} (h : P ≠ []) (hb : ¬ badP P) (r : List UInt8) : contP (P ++ r) = [] := by
  cases P with
  | nil => exact absurd rfl h
  | cons b t =>
    rw [List.cons_append, contP_cons, if_neg]
    unfold badP at hb
    rw [Lib.decodeL_N] at hb
    unfold isCont
    simp only [List.getD_cons_zero] at hb
    rcases Lib.decodeN_shape (b :: t).length b.toNat ((b :: t).getD 1 0).toNat ((b :: t).getD 2 0).toNat ((b :: t).getD 3 0).toNat with ⟨c, e⟩ | ⟨k1, _⟩ | ⟨k1, _⟩ | ⟨k1, _⟩ | e
    · simp; omega
    · simp; omega
    · simp; omega
    · simp; omega
    · rw [e] at hb; exact absurd ⟨rfl, rfl⟩ hb

/-! ### small letters -/
theorem smallC_cases (r : Int) : smallC r = r ∨ (65 ≤ r ∧ r ≤ 90 ∧ smallC r = r + 32) ∨ (192 ≤ r ∧ r ≤ 1071 ∧ 224 ≤ smallC r ∧ smallC r ≤ 1119) := by
  unfold smallC
  split
  · omega
  · split
    · omega
    · exact .inl rfl
theorem smallC_twice (r : Int) : smallC (smallC r) = smallC r := by
  unfold smallC
  split
  · rw [if_neg (by omega), if_neg (by omega)]
  · split
    · rw [if_neg (by omega), if_neg (by omega)]
    · rfl
theorem smallC_blank {r : Int} (h : smallC r = 32) : r = 32 := by
  have := smallC_cases r
  omega
theorem byte_of {z : Int} (h0 : 0 ≤ z) (h1 : z < 256) : ((z.toNat.toUInt8).toNat : Int) = z := by
  have : z.toNat.toUInt8.toNat = z.toNat % 256 := UInt8.toNat_ofNat' ..
  omega
theorem enc_ne (r : Int) : Lib.encodeRune r ≠ [] := by
  intro e
  have := congrArg List.length e
  unfold Lib.encodeRune at this
  rw [List.length_map] at this
  have h := Lib.encodeRuneZ_length r
  simp at this
  rw [this] at h
  simp at h
theorem decode_one {r : Int} (h0 : 0 ≤ r) (h1 : r ≤ 127) : Lib.decodeL (Lib.encodeRune r) = (r.toNat, 1) ∧ (Lib.encodeRune r).length = 1 := by
  unfold Lib.encodeRune
  rw [Lib.encodeRuneZ_one h0 h1]
  have := byte_of h0 (by omega : r < 256)
  simp only [List.map_cons, List.map_nil]
  rw [Lib.decodeL_ascii _ _ (by omega)]
  exact ⟨by rw [Prod.mk.injEq]; exact ⟨by omega, rfl⟩, rfl⟩
theorem decode_two {r : Int} (h0 : 128 ≤ r) (h1 : r ≤ 2047) : Lib.decodeL (Lib.encodeRune r) = (r.toNat, 2) ∧ (Lib.encodeRune r).length = 2 := by
  unfold Lib.encodeRune
  rw [Lib.encodeRuneZ_two h0 h1]
  have k1 := byte_of (by omega : 0 ≤ 192 + r / 64) (by omega)
  have k2 := byte_of (by omega : 0 ≤ 128 + r % 64) (by omega)
  simp only [List.map_cons, List.map_nil]
  refine ⟨?_, rfl⟩
  rw [Lib.decodeL_N]
  simp only [List.length_cons, List.length_nil, List.getD_cons_zero, List.getD_cons_succ]
  unfold Lib.decodeN
  rw [if_neg (by omega), if_pos ⟨by omega, by omega, by omega⟩, if_pos (by omega), Prod.mk.injEq]
  exact ⟨by omega, rfl⟩
/-- what a piece is folded to -/
def fldP (P : List UInt8) : List UInt8 := if badP P then P else Lib.encodeRune (smallC (Lib.decodeL P).1)
/-- a whole piece -/
def Whole (P : List UInt8) : Prop := P ≠ [] ∧ (Lib.decodeL P).2 = P.length
theorem small_piece {P : List UInt8} (hw : Whole P) (hb : ¬ badP P) :
    Whole (Lib.encodeRune (smallC (Lib.decodeL P).1)) ∧ ¬ badP (Lib.encodeRune (smallC (Lib.decodeL P).1)) ∧ ((Lib.decodeL (Lib.encodeRune (smallC (Lib.decodeL P).1))).1 : Int) = smallC (Lib.decodeL P).1 := by
  rcases smallC_cases (Lib.decodeL P).1 with h | ⟨h1, h2, h3⟩ | ⟨h1, h2, h3, h4⟩
  · rw [h, Lib.encode_decode P hw.1 hb, hw.2, List.take_length]
    exact ⟨hw, hb, rfl⟩
  · rw [h3]
    obtain ⟨d, l⟩ := decode_one (r := ((Lib.decodeL P).1 : Int) + 32) (by omega) (by omega)
    refine ⟨⟨enc_ne _, by rw [d, l]⟩, fun k => ?_, by rw [d]; dsimp only; omega⟩
    have := k.1
    rw [d] at this
    dsimp only at this
    omega
  · obtain ⟨d, l⟩ := decode_two (r := smallC (Lib.decodeL P).1) (by omega) (by omega)
    refine ⟨⟨enc_ne _, by rw [d, l]⟩, fun k => ?_, by rw [d]; dsimp only; omega⟩
    have := k.2
    rw [d] at this
    dsimp only at this
    omega
theorem fldP_ne {P : List UInt8} (h : P ≠ []) : fldP P ≠ [] := by
  unfold fldP
  split
  · exact h
  · exact enc_ne _
theorem fldP_bad {P : List UInt8} (h : badP P) : fldP P = P := if_pos h
theorem fldP_good {P : List UInt8} (h : ¬ badP P) : fldP P = Lib.encodeRune (smallC (Lib.decodeL P).1) := if_neg h
theorem fldP_small {P : List UInt8} (hw : Whole P) (hb : ¬ badP P) : fldP (Lib.encodeRune (smallC (Lib.decodeL P).1)) = fldP P := by
  obtain ⟨_, h2, h3⟩ := small_piece hw hb
  rw [fldP_good h2, h3, smallC_twice, fldP_good hb]
theorem fldP_twice {P : List UInt8} (hw : Whole P) : fldP (fldP P) = fldP P := by
  by_cases hb : badP P
  · rw [fldP_bad hb, fldP_bad hb]
  · rw [fldP_good hb, fldP_small hw hb, fldP_good hb]
theorem fldP_whole {P : List UInt8} (hw : Whole P) : Whole (fldP P) := by
  by_cases hb : badP P
  · rw [fldP_bad hb]; exact hw
  · rw [fldP_good hb]; exact (small_piece hw hb).1
/-- a blank -/
def blk (P : List UInt8) : Prop := (Lib.decodeL P).1 = 32
instance (P : List UInt8) : Decidable (blk P) := inferInstanceAs (Decidable (_ = _))
theorem fldP_blk {P : List UInt8} (hw : Whole P) (h : ¬ blk P) : ¬ blk (fldP P) := by
  by_cases hb : badP P
  · rw [fldP_bad hb]; exact h
  · rw [fldP_good hb]
    intro k
    have h3 := (small_piece hw hb).2.2
    unfold blk at k h
    rw [k] at h3
    exact h (by have := smallC_blank h3.symm; omega)
theorem blk_good {P : List UInt8} (h : blk P) : ¬ badP P := by
  intro k
  have := k.1
  unfold blk at h
  omega
theorem blk_one : blk [32] := by unfold blk; rw [Lib.decodeL_ascii _ _ (by decide)]; rfl
theorem whole_one : Whole [32] := ⟨by simp, by rw [Lib.decodeL_ascii _ _ (by decide)]; rfl⟩
theorem blk_is {P : List UInt8} (hw : Whole P) (h : blk P) : P = [32] := by
  have he := Lib.encode_decode P hw.1 (blk_good h)
  rw [hw.2, List.take_length] at he
  unfold blk at h
  rw [h] at he
  rw [← he]; rfl

/-! ### a text's pieces -/
inductive Parse : List UInt8 → List (List UInt8) → Prop
  | nil : Parse [] []
  | cons {P r : List UInt8} {ps : List (List UInt8)} (h : P ≠ []) (hd : (Lib.decodeL (P ++ r)).2 = P.length) (k : Parse r ps) : Parse (P ++ r) (P :: ps)
theorem piece_whole {P r : List UInt8} (h : P ≠ []) (hd : (Lib.decodeL (P ++ r)).2 = P.length) : Lib.decodeL (P ++ r) = Lib.decodeL P ∧ Whole P := by
  have e := decodeL_cut h (b := r) (by omega)
  exact ⟨e, h, by rw [← e]; exact hd⟩
theorem Parse.flat {l : List UInt8} {ps : List (List UInt8)} (h : Parse l ps) : ps.flatten = l := by
  induction h with
  | nil => rfl
  | cons _ _ _ ih => rw [List.flatten_cons, ih]
theorem Parse.whole {l : List UInt8} {ps : List (List UInt8)} (h : Parse l ps) : ∀ P ∈ ps, Whole P := by
  induction h with
  | nil => simp
  | cons h hd _ ih =>
    intro P hP
    rcases List.mem_cons.1 hP with rfl | hP
    · exact (piece_whole h hd).2
    · exact ih P hP
/-- the pieces from a place on -/
def pcs (l : List UInt8) (p : Nat) : List (List UInt8) := if p < l.length then (l.drop p).take (chN l p) :: pcs l (p + chN l p) else []
termination_by l.length - p
decreasing_by have := chN_pos l p; omega
theorem pcs_on {l : List UInt8} {p : Nat} (h : p < l.length) : pcs l p = (l.drop p).take (chN l p) :: pcs l (p + chN l p) := by rw [pcs, if_pos h]
theorem pcs_end {l : List UInt8} {p : Nat} (h : ¬ p < l.length) : pcs l p = [] := by rw [pcs, if_neg h]
theorem pcs_parse {l : List UInt8} : ∀ (d p : Nat), l.length - p = d → Parse (l.drop p) (pcs l p) := by
  intro d
  induction d using Nat.strongRecOn with
  | _ d ih =>
    intro p hd
    by_cases h : p < l.length
    · have h1 := chN_pos l p
      have h2 := chN_le h
      have hlen : ((l.drop p).take (chN l p)).length = chN l p := by rw [List.length_take, List.length_drop]; omega
      have k := ih (l.length - (p + chN l p)) (by omega) (p + chN l p) rfl
      rw [pcs_on h]
      have e : l.drop p = (l.drop p).take (chN l p) ++ l.drop (p + chN l p) := by
        rw [← List.drop_drop, List.take_append_drop]
      rw [e]
      rw [e] at hlen
      have e2 : ((l.drop p).take (chN l p) ++ l.drop (p + chN l p)).take (chN l p) = (l.drop p).take (chN l p) := by rw [← e]
      rw [e2] at hlen ⊢
      refine Parse.cons (fun c => by rw [c] at hlen; simp at hlen; omega) ?_ k
      rw [← e, hlen]; rfl
    · rw [pcs_end h, List.drop_eq_nil_of_le (by omega)]; exact Parse.nil
/-- folding, by pieces -/
def foldL : List (List UInt8) → Bool → List UInt8 → List UInt8
  | [], _, t => t
  | P :: ps, w, t => if blk P then foldL ps (decide (0 < t.length)) t else foldL ps false ((if w then t ++ [32] else t) ++ fldP P)
theorem fold_pcs {s : ByteArray} : ∀ (d p : Nat) (w : Bool) (t : List UInt8), s.size - p = d → foldGo s p w t = foldL (pcs s.data.toList p) w t := by
  intro d
  induction d using Nat.strongRecOn with
  | _ d ih =>
    intro p w t hd
    by_cases h : p < s.size
    · have hl : p < s.data.toList.length := by rw [str_len]; exact h
      have h1 := chN_pos s.data.toList p
      have h2 := chN_le hl
      have hpar := pcs_parse (l := s.data.toList) _ p rfl
      rw [pcs_on hl]
      have hlen : ((s.data.toList.drop p).take (chN s.data.toList p)).length = chN s.data.toList p := by rw [List.length_take, List.length_drop]; omega
      have hne : (s.data.toList.drop p).take (chN s.data.toList p) ≠ [] := fun c => by rw [c] at hlen; simp at hlen; omega
      have e : s.data.toList.drop p = (s.data.toList.drop p).take (chN s.data.toList p) ++ s.data.toList.drop (p + chN s.data.toList p) := by
        rw [← List.drop_drop, List.take_append_drop]
      have hdec : Lib.decodeL (s.data.toList.drop p) = Lib.decodeL ((s.data.toList.drop p).take (chN s.data.toList p)) := by
        have := (piece_whole (r := s.data.toList.drop (p + chN s.data.toList p)) hne (by rw [← e, hlen]; rfl)).1
        rw [← e] at this
        exact this
      have hr : (Lib.decodeL ((s.data.toList.drop p).take (chN s.data.toList p))).1 = chR s.data.toList p := by rw [← hdec]; rfl
      have hn : (Lib.decodeL ((s.data.toList.drop p).take (chN s.data.toList p))).2 = chN s.data.toList p := by rw [← hdec]; rfl
      unfold foldL
      by_cases h32 : chR s.data.toList p = 32
      · have hn1 := chN_ascii hl (by omega)
        rw [foldGo_sp h h32, if_pos (show blk _ from hr.trans h32), ih _ (by omega) _ _ _ rfl, hn1]
      · rw [foldGo_on h h32, if_neg (show ¬ blk _ from fun k => h32 (hr.symm.trans k)), ih _ (by omega) _ _ _ rfl]
        congr 2
        have hbc : badC s.data.toList p = true ↔ badP ((s.data.toList.drop p).take (chN s.data.toList p)) := by
          unfold badP badC; rw [hr, hn]; simp
        unfold foldC
        by_cases hb : badP ((s.data.toList.drop p).take (chN s.data.toList p))
        · rw [fldP_bad hb, if_pos (hbc.2 hb)]
          have := hb.2
          rw [hn] at this
          rw [this, drop_cons hl]; rfl
        · rw [fldP_good hb, if_neg (fun k => hb (hbc.1 k)), hr]
    · rw [foldGo_end h, pcs_end (by rw [str_len]; exact h)]; rfl
theorem foldB_pcs (s : ByteArray) : foldB s = foldL (pcs s.data.toList 0) false [] := fold_pcs _ 0 false [] rfl
/-- a text has one way to part it -/
theorem Parse.one {l : List UInt8} {ps : List (List UInt8)} (h : Parse l ps) : ∀ qs, Parse l qs → ps = qs := by
  induction h with
  | nil =>
    intro qs k
    generalize hl : ([] : List UInt8) = l at k
    cases k with
    | nil => rfl
    | cons h1 _ _ => exact absurd (List.append_eq_nil_iff.1 hl.symm).1 h1
  | @cons P r ps h1 h2 k1 ih =>
    intro qs k
    generalize hl : P ++ r = l at k
    cases k with
    | nil => exact absurd (List.append_eq_nil_iff.1 hl).1 h1
    | @cons P' r' ps' h1' h2' k' =>
      rw [hl, h2'] at h2
      have hP : P = P' := by
        have := congrArg (List.take P.length) hl
        rw [List.take_left, ← h2, List.take_left] at this
        exact this
      subst hP
      rw [ih _ (by rw [List.append_cancel_left hl]; exact k')]
theorem foldB_parse {s : ByteArray} {ps : List (List UInt8)} (h : Parse s.data.toList ps) : foldB s = foldL ps false [] := by
  rw [foldB_pcs]
  have := pcs_parse (l := s.data.toList) _ 0 rfl
  rw [List.drop_zero] at this
  rw [h.one _ this]

/-! ### folded once is folded -/
def nf : List (List UInt8) → Bool → Bool → List (List UInt8)
  | [], _, _ => []
  | P :: ps, w, ne => if blk P then nf ps ne ne else (if w then [[32]] else []) ++ fldP P :: nf ps false true
theorem foldL_nf : ∀ (ps : List (List UInt8)) (w : Bool) (t : List UInt8), (∀ P ∈ ps, Whole P) → foldL ps w t = t ++ (nf ps w (decide (0 < t.length))).flatten
  | [], w, t, _ => by simp [foldL, nf]
  | P :: ps, w, t, h => by
    have hP := h P (by simp)
    have hr : ∀ Q ∈ ps, Whole Q := fun Q hQ => h Q (by simp [hQ])
    unfold foldL nf
    by_cases hb : blk P
    · rw [if_pos hb, if_pos hb, foldL_nf ps _ _ hr]
    · rw [if_neg hb, if_neg hb, foldL_nf ps _ _ hr]
      have hne := List.length_pos_iff.2 (fldP_ne hP.1)
      have hd : decide (0 < ((if w then t ++ [32] else t) ++ fldP P).length) = true := by
        rw [decide_eq_true_iff, List.length_append]; omega
      rw [hd]
      cases w <;> simp
theorem nf_wait : ∀ (ps : List (List UInt8)), contP (nf ps true true).flatten = []
  | [] => rfl
  | P :: ps => by
    unfold nf
    by_cases hb : blk P
    · rw [if_pos hb]; exact nf_wait ps
    · rw [if_neg hb]
      show contP ([32] ++ _) = []
      exact good_head (by simp) (blk_good blk_one) _
theorem nf_conts {l : List UInt8} {ps : List (List UInt8)} (h : Parse l ps) : contP (nf ps false true).flatten = contP l := by
  induction h with
  | nil => rfl
  | @cons P r ps h1 h2 k ih =>
    obtain ⟨e, hw⟩ := piece_whole h1 h2
    unfold nf
    by_cases hb : blk P
    · rw [if_pos hb, nf_wait, good_head h1 (blk_good hb)]
    · rw [if_neg hb]
      show contP (fldP P :: nf ps false true).flatten = _
      rw [List.flatten_cons]
      by_cases hbad : badP P
      · rw [fldP_bad hbad]
        have hlen : P.length = 1 := by rw [← hw.2]; exact hbad.2
        obtain ⟨b, rfl⟩ := List.length_eq_one_iff.1 hlen
        rw [List.singleton_append, List.singleton_append, contP_cons, contP_cons, ih]
      · rw [good_head h1 hbad, fldP_good hbad]
        exact good_head (small_piece hw hbad).1.1 (small_piece hw hbad).2.1 _
theorem good_parse {P r : List UInt8} {ps : List (List UInt8)} (hw : Whole P) (hb : ¬ badP P) (k : Parse r ps) : Parse (P ++ r) (P :: ps) :=
  Parse.cons hw.1 (by rw [decode_whole hw.1 hb]; exact hw.2) k
theorem bad_parse {P r r' : List UInt8} {ps : List (List UInt8)} (h1 : P ≠ []) (h2 : (Lib.decodeL (P ++ r)).2 = P.length) (hc : contP r' = contP r) (k : Parse r' ps) : Parse (P ++ r') (P :: ps) :=
  Parse.cons h1 (by rw [decode_same h1 hc]; exact h2) k
theorem nf_parse {l : List UInt8} {ps : List (List UInt8)} (h : Parse l ps) : ∀ w ne, Parse (nf ps w ne).flatten (nf ps w ne) := by
  induction h with
  | nil => intro w ne; exact Parse.nil
  | @cons P r ps h1 h2 k ih =>
    intro w ne
    obtain ⟨e, hw⟩ := piece_whole h1 h2
    unfold nf
    by_cases hb : blk P
    · rw [if_pos hb]; exact ih ne ne
    · rw [if_neg hb]
      have hmain : Parse (fldP P :: nf ps false true).flatten (fldP P :: nf ps false true) := by
        rw [List.flatten_cons]
        by_cases hbad : badP P
        · rw [fldP_bad hbad]
          exact bad_parse h1 h2 (nf_conts k) (ih false true)
        · rw [fldP_good hbad]
          exact good_parse (small_piece hw hbad).1 (small_piece hw hbad).2.1 (ih false true)
      cases w with
      | false => exact hmain
      | true =>
        show Parse ([32] :: (fldP P :: nf ps false true)).flatten ([32] :: (fldP P :: nf ps false true))
        rw [List.flatten_cons]
        exact good_parse whole_one (blk_good blk_one) hmain
theorem nf_nf : ∀ (ps : List (List UInt8)) (w ne : Bool), (∀ P ∈ ps, Whole P) → (w = true → ne = true) → nf (nf ps w ne) false ne = nf ps w ne
  | [], _, _, _, _ => rfl
  | P :: ps, w, ne, h, hwn => by
    have hP := h P (by simp)
    have hr : ∀ Q ∈ ps, Whole Q := fun Q hQ => h Q (by simp [hQ])
    by_cases hb : blk P
    · have e : nf (P :: ps) w ne = nf ps ne ne := by rw [nf, if_pos hb]
      rw [e]
      exact nf_nf ps ne ne hr (fun h => h)
    · have e : nf (P :: ps) w ne = (if w then [[32]] else []) ++ fldP P :: nf ps false true := by rw [nf, if_neg hb]
      rw [e]
      have hn := fldP_blk hP hb
      have ih := nf_nf ps false true hr (fun h => by cases h)
      cases w with
      | false =>
        show nf (fldP P :: nf ps false true) false ne = fldP P :: nf ps false true
        rw [nf, if_neg hn, fldP_twice hP, ih]; rfl
      | true =>
        obtain rfl := hwn rfl
        show nf ([32] :: fldP P :: nf ps false true) false true = [32] :: fldP P :: nf ps false true
        rw [nf, if_pos blk_one, nf, if_neg hn, fldP_twice hP, ih]; rfl
/-- **folded once is folded** -/
theorem fold_twice (s : ByteArray) : foldS (foldS s) = foldS s := by
  have hp := pcs_parse (l := s.data.toList) _ 0 rfl
  rw [List.drop_zero] at hp
  have e : foldB s = (nf (pcs s.data.toList 0) false false).flatten := by
    rw [foldB_pcs, foldL_nf _ _ _ hp.whole]; rfl
  have k : Parse (foldS s).data.toList (nf (pcs s.data.toList 0) false false) := by
    show Parse (foldB s) _
    rw [e]
    exact nf_parse hp false false
  have h2 : foldB (foldS s) = foldB s := by
    rw [foldB_parse k, foldL_nf _ _ _ k.whole, e]
    show [] ++ (nf (nf _ false false) false false).flatten = _
    rw [nf_nf _ false false hp.whole (fun h => by cases h), List.nil_append]
  unfold foldS
  unfold foldS at h2
  rw [h2]

/-! ### small letters, more blanks -/
/-- what may stand for a piece -/
def Sub (P : List UInt8) (Q : List (List UInt8)) : Prop := Q = [P] ∨ (blk P ∧ Q = [[32], [32], [32]]) ∨ (¬ badP P ∧ Q = [Lib.encodeRune (smallC (Lib.decodeL P).1)])
theorem foldL_sub {P : List UInt8} {Q : List (List UInt8)} (hw : Whole P) (h : Sub P Q) (ps : List (List UInt8)) (w : Bool) (t : List UInt8) : ∃ w' t', foldL (P :: ps) w t = foldL ps w' t' ∧ ∀ qs, foldL (Q ++ qs) w t = foldL qs w' t' := by
  rcases h with rfl | ⟨hb, rfl⟩ | ⟨hb, rfl⟩
  · by_cases hb : blk P
    · exact ⟨_, _, by rw [foldL, if_pos hb], fun qs => by rw [List.singleton_append, foldL, if_pos hb]⟩
    · exact ⟨_, _, by rw [foldL, if_neg hb], fun qs => by rw [List.singleton_append, foldL, if_neg hb]⟩
  · refine ⟨_, _, by rw [foldL, if_pos hb], fun qs => ?_⟩
    show foldL ([32] :: [32] :: [32] :: qs) w t = _
    rw [foldL, if_pos blk_one, foldL, if_pos blk_one, foldL, if_pos blk_one]
  · obtain ⟨s1, s2, s3⟩ := small_piece hw hb
    by_cases hk : blk P
    · refine ⟨_, _, by rw [foldL, if_pos hk], fun qs => ?_⟩
      have : blk (Lib.encodeRune (smallC (Lib.decodeL P).1)) := by
        unfold blk at hk ⊢
        rw [hk] at s3 ⊢
        have e : smallC ((32 : Nat) : Int) = 32 := by decide
        rw [e] at s3 ⊢
        omega
      rw [List.singleton_append, foldL, if_pos this]
    · refine ⟨_, _, by rw [foldL, if_neg hk], fun qs => ?_⟩
      have : ¬ blk (Lib.encodeRune (smallC (Lib.decodeL P).1)) := by
        rw [← fldP_good hb]; exact fldP_blk hw hk
      rw [List.singleton_append, foldL, if_neg this, fldP_small hw hb]
theorem sub_conts {P : List UInt8} {Q : List (List UInt8)} (hw : Whole P) (h : Sub P Q) {r r' : List UInt8} (hc : contP r' = contP r) : contP (Q.flatten ++ r') = contP (P ++ r) := by
  rcases h with rfl | ⟨hb, rfl⟩ | ⟨hb, rfl⟩
  · show contP ([P].flatten ++ r') = _
    rw [List.flatten_cons, List.flatten_nil, List.append_nil]
    by_cases hbad : badP P
    · have hlen : P.length = 1 := by rw [← hw.2]; exact hbad.2
      obtain ⟨b, rfl⟩ := List.length_eq_one_iff.1 hlen
      rw [List.singleton_append, List.singleton_append, contP_cons, contP_cons, hc]
    · rw [good_head hw.1 hbad, good_head hw.1 hbad]
  · rw [good_head hw.1 (blk_good hb)]
    exact good_head (P := [32]) (by simp) (blk_good blk_one) _
  · rw [good_head hw.1 hb, List.flatten_cons, List.flatten_nil, List.append_nil]
    exact good_head (small_piece hw hb).1.1 (small_piece hw hb).2.1 _
theorem sub_parse {P r : List UInt8} {Q : List (List UInt8)} (h1 : P ≠ []) (h2 : (Lib.decodeL (P ++ r)).2 = P.length) (h : Sub P Q) {r' : List UInt8} {qs : List (List UInt8)} (hc : contP r' = contP r) (k : Parse r' qs) : Parse (Q.flatten ++ r') (Q ++ qs) := by
  obtain ⟨e, hw⟩ := piece_whole h1 h2
  rcases h with rfl | ⟨hb, rfl⟩ | ⟨hb, rfl⟩
  · rw [List.flatten_cons, List.flatten_nil, List.append_nil]
    exact bad_parse h1 h2 hc k
  · have g := fun {r ps} (k : Parse r ps) => good_parse whole_one (blk_good blk_one) k
    exact g (g (g k))
  · rw [List.flatten_cons, List.flatten_nil, List.append_nil]
    exact good_parse (small_piece hw hb).1 (small_piece hw hb).2.1 k
/-- what stands for pieces, one behind the other -/
inductive Subs : List (List UInt8) → List (List (List UInt8)) → Prop
  | nil : Subs [] []
  | cons {P : List UInt8} {Q : List (List UInt8)} {ps : List (List UInt8)} {Qs : List (List (List UInt8))} (h : Sub P Q) (k : Subs ps Qs) : Subs (P :: ps) (Q :: Qs)
theorem subs_all {l : List UInt8} {ps : List (List UInt8)} (h : Parse l ps) : ∀ Qs, Subs ps Qs → contP Qs.flatten.flatten = contP l ∧ Parse Qs.flatten.flatten Qs.flatten ∧ ∀ w t, foldL Qs.flatten w t = foldL ps w t := by
  induction h with
  | nil =>
    intro Qs k
    cases k
    exact ⟨rfl, Parse.nil, fun _ _ => rfl⟩
  | @cons P r ps h1 h2 k ih =>
    intro Qs hs
    cases hs with
    | @cons _ Q _ Qs hq hs =>
      obtain ⟨i1, i2, i3⟩ := ih Qs hs
      obtain ⟨e, hw⟩ := piece_whole h1 h2
      rw [List.flatten_cons, List.flatten_append]
      refine ⟨sub_conts hw hq i1, sub_parse h1 h2 hq i1 i2, fun w t => ?_⟩
      obtain ⟨w', t', a1, a2⟩ := foldL_sub hw hq ps w t
      rw [a1, a2, i3]
/-- **small letters and more blanks make no other** -/
theorem fold_subs {s u : ByteArray} {Qs : List (List (List UInt8))} (h : Subs (pcs s.data.toList 0) Qs) (hu : u.data.toList = Qs.flatten.flatten) : foldS u = foldS s := by
  have hp := pcs_parse (l := s.data.toList) _ 0 rfl
  rw [List.drop_zero] at hp
  obtain ⟨_, k2, k3⟩ := subs_all hp Qs h
  rw [← hu] at k2
  unfold foldS
  rw [foldB_parse k2, foldB_pcs s, k3]
end Go.Proofs.YtohngjkedhpikaaGreatDoor
