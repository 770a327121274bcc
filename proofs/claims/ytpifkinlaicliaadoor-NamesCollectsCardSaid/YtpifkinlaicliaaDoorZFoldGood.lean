/-
  WHAT IS FOLDED OF A PLAIN TEXT: it is told by its characters; blanks ahead and behind make no other.
-/
import Derived.Test.YtpifkinlaicliaaDoorZTextFoldP
import Derived.Test.YtpifkinlaicliaaDoorZNamesP
import Derived.Test.YtpifkinlaicliaaDoorZTextCompare3
import Derived.Test.YtpifkinlaicliaaDoorZNorm
import Derived.Lib.QuoteLoop
import Derived.Laws.Cover4
namespace Go.Proofs.YtpifkinlaicliaaDoor
open Go.RowKit

/-- all pieces are characters -/
def AllGood (ps : List (List UInt8)) : Prop := ∀ P ∈ ps, Whole P ∧ ¬ badP P
theorem runes_pcs {l : List UInt8} : ∀ (d p : Nat), l.length - p = d → (charsAt l p).map (fun c => (c.r : Int)) = (pcs l p).map fun P => ((Lib.decodeL P).1 : Int) := by
  intro d
  induction d using Nat.strongRecOn with
  | _ d ih =>
    intro p hd
    by_cases h : p < l.length
    · have h1 := chN_pos l p
      have h2 := chN_le h
      rw [charsAt_on h, pcs_on h, List.map_cons, List.map_cons, ih (l.length - (p + chN l p)) (by omega) _ rfl]
      congr 1
      have hlen : ((l.drop p).take (chN l p)).length = chN l p := by rw [List.length_take, List.length_drop]; omega
      have hne : (l.drop p).take (chN l p) ≠ [] := fun c => by rw [c] at hlen; simp at hlen; omega
      have e : l.drop p = (l.drop p).take (chN l p) ++ l.drop (p + chN l p) := by
        rw [← List.drop_drop, List.take_append_drop]
      have hd2 : (Lib.decodeL ((l.drop p).take (chN l p) ++ l.drop (p + chN l p))).2 = ((l.drop p).take (chN l p)).length := by rw [← e, hlen]; rfl
      have := (piece_whole hne hd2).1
      rw [← e] at this
      show ((Lib.decodeL (l.drop p)).1 : Int) = _
      rw [this]
    · rw [charsAt_end h, pcs_end h]; rfl
theorem pcs_of {l : List UInt8} {ps : List (List UInt8)} (h : Parse l ps) : pcs l 0 = ps := by
  have := pcs_parse (l := l) _ 0 rfl
  rw [List.drop_zero] at this
  exact this.one ps h
theorem runesI_parse {s : ByteArray} {ps : List (List UInt8)} (h : Parse s.data.toList ps) : runesI s = ps.map fun P => ((Lib.decodeL P).1 : Int) := by
  unfold runesI
  rw [runes_pcs _ 0 rfl, pcs_of h]
theorem good_enc {P : List UInt8} (h : Whole P) (hb : ¬ badP P) : Lib.encodeRune ((Lib.decodeL P).1 : Int) = P := by
  have he := Lib.encode_decode P h.1 hb
  rw [h.2, List.take_length] at he
  exact he
theorem good_inj : ∀ {ps qs : List (List UInt8)}, AllGood ps → AllGood qs → ps.map (fun P => ((Lib.decodeL P).1 : Int)) = qs.map (fun P => ((Lib.decodeL P).1 : Int)) → ps = qs
  | [], [], _, _, _ => rfl
  | [], Q :: qs, _, _, h => by simp at h
  | P :: ps, [], _, _, h => by simp at h
  | P :: ps, Q :: qs, hp, hq, h => by
    rw [List.map_cons, List.map_cons, List.cons.injEq] at h
    have h1 := hp P (by simp)
    have h2 := hq Q (by simp)
    have e : P = Q := by rw [← good_enc h1.1 h1.2, ← good_enc h2.1 h2.2, h.1]
    rw [e, good_inj (fun R hR => hp R (by simp [hR])) (fun R hR => hq R (by simp [hR])) h.2]
/-- a plain text's pieces are characters -/
theorem plain_good {l : List UInt8} : ∀ (d p : Nat), l.length - p = d → (plainAt l p).2 = true → ∀ P ∈ pcs l p, ¬ badP P := by
  intro d
  induction d using Nat.strongRecOn with
  | _ d ih =>
    intro p hd hpl P hP
    by_cases h : p < l.length
    · have h1 := chN_pos l p
      have h2 := chN_le h
      rw [pcs_on h] at hP
      have hc : (ctlR (chR l p) || badC l p) = false := by
        cases e : (ctlR (chR l p) || badC l p) with
        | false => rfl
        | true => rw [plainAt_no h e] at hpl; cases hpl
      rw [plainAt_on h hc] at hpl
      rcases List.mem_cons.1 hP with rfl | hP
      · have hlen : ((l.drop p).take (chN l p)).length = chN l p := by rw [List.length_take, List.length_drop]; omega
        have hne : (l.drop p).take (chN l p) ≠ [] := fun c => by rw [c] at hlen; simp at hlen; omega
        have e : l.drop p = (l.drop p).take (chN l p) ++ l.drop (p + chN l p) := by
          rw [← List.drop_drop, List.take_append_drop]
        have hd2 : (Lib.decodeL ((l.drop p).take (chN l p) ++ l.drop (p + chN l p))).2 = ((l.drop p).take (chN l p)).length := by rw [← e, hlen]; rfl
        have h3 := (piece_whole hne hd2).1
        rw [← e] at h3
        intro hb
        unfold badP at hb
        rw [← h3] at hb
        have hbc : badC l p = true := by
          unfold badC
          rw [Bool.and_eq_true, beq_iff_eq, beq_iff_eq]
          exact hb
        rw [hbc] at hc
        simp at hc
      · exact ih (l.length - (p + chN l p)) (by omega) _ rfl hpl P hP
    · rw [pcs_end h] at hP; cases hP
theorem fldP_good' {P : List UInt8} (hw : Whole P) (hb : ¬ badP P) : ¬ badP (fldP P) := by rw [fldP_good hb]; exact (small_piece hw hb).2.1
theorem nf_good : ∀ (ps : List (List UInt8)) (w ne : Bool), AllGood ps → ∀ P ∈ nf ps w ne, ¬ badP P
  | [], _, _, _, P, hP => by cases hP
  | Q :: ps, w, ne, h, P, hP => by
    have hQ := h Q (by simp)
    have hr : AllGood ps := fun R hR => h R (by simp [hR])
    unfold nf at hP
    by_cases hb : blk Q
    · rw [if_pos hb] at hP; exact nf_good ps _ _ hr P hP
    · rw [if_neg hb] at hP
      rcases List.mem_append.1 hP with h1 | h1
      · cases w
        · simp at h1
        · simp at h1; subst h1; exact blk_good blk_one
      · rcases List.mem_cons.1 h1 with rfl | h1
        · exact fldP_good' hQ.1 hQ.2
        · exact nf_good ps _ _ hr P h1
/-- a plain text folded: its pieces -/
theorem fold_pieces {s : ByteArray} (h : (plainAt s.data.toList 0).2 = true) : ∃ ps, Parse (foldS s).data.toList ps ∧ AllGood ps := by
  have hp := pcs_parse (l := s.data.toList) _ 0 rfl
  rw [List.drop_zero] at hp
  have hg : AllGood (pcs s.data.toList 0) := fun P hP => ⟨hp.whole P hP, plain_good _ 0 rfl h P hP⟩
  refine ⟨nf (pcs s.data.toList 0) false false, ?_, fun P hP => ⟨?_, nf_good _ _ _ hg P hP⟩⟩
  · have := nf_parse hp false false
    unfold foldS
    rw [foldB_pcs, foldL_nf _ _ _ hp.whole]
    simpa using this
  · exact (nf_parse hp false false).whole P hP
theorem str_eq {a b : ByteArray} (h : a.data.toList = b.data.toList) : a = b := ByteArray.ext (Array.toList_inj.1 h)
/-- folded texts are told by their characters -/
theorem fold_runes {s t : ByteArray} (hs : (plainAt s.data.toList 0).2 = true) (ht : (plainAt t.data.toList 0).2 = true) (h : runesI (foldS s) = runesI (foldS t)) : foldS s = foldS t := by
  obtain ⟨ps, hp, hpg⟩ := fold_pieces hs
  obtain ⟨qs, hq, hqg⟩ := fold_pieces ht
  rw [runesI_parse hp, runesI_parse hq] at h
  have e := good_inj hpg hqg h
  exact str_eq (by rw [← hp.flat, ← hq.flat, e])

/-! ### blanks around -/
def blanks (s : ByteArray) : ByteArray := ⟨#[32]⟩ ++ s ++ ⟨#[32]⟩
theorem blanks_data (s : ByteArray) : (blanks s).data.toList = 32 :: (s.data.toList ++ [32]) := by simp [blanks]
theorem blanks_size (s : ByteArray) : (blanks s).size = s.size + 2 := by
  rw [← str_len, blanks_data, List.length_cons, List.length_append, str_len]; rfl
theorem parse_append {l : List UInt8} {ps : List (List UInt8)} (h : Parse l ps) (hg : AllGood ps) {m : List UInt8} {qs : List (List UInt8)} (k : Parse m qs) : Parse (l ++ m) (ps ++ qs) := by
  induction h with
  | nil => exact k
  | @cons P r ps h1 h2 _ ih =>
    rw [List.append_assoc]
    have := hg P (by simp)
    exact good_parse this.1 this.2 (ih fun Q hQ => hg Q (by simp [hQ]))
theorem blanks_parse {s : ByteArray} {ps : List (List UInt8)} (h : Parse s.data.toList ps) (hg : AllGood ps) : Parse (blanks s).data.toList ([32] :: (ps ++ [[32]])) := by
  rw [blanks_data]
  have h1 : Parse ([32] : List UInt8) [[32]] := good_parse (r := []) whole_one (blk_good blk_one) Parse.nil
  exact good_parse (P := [32]) whole_one (blk_good blk_one) (parse_append h hg h1)
theorem nf_end : ∀ (ps : List (List UInt8)) (w ne : Bool), nf (ps ++ [[32]]) w ne = nf ps w ne
  | [], w, ne => by
    show nf [[32]] w ne = []
    unfold nf
    rw [if_pos blk_one]; rfl
  | P :: ps, w, ne => by
    rw [List.cons_append]
    unfold nf
    split
    · exact nf_end ps _ _
    · rw [nf_end ps]
theorem fold_blanks {s : ByteArray} (h : (plainAt s.data.toList 0).2 = true) : foldS (blanks s) = foldS s := by
  have hp := pcs_parse (l := s.data.toList) _ 0 rfl
  rw [List.drop_zero] at hp
  have hg : AllGood (pcs s.data.toList 0) := fun P hP => ⟨hp.whole P hP, plain_good _ 0 rfl h P hP⟩
  have hb := blanks_parse hp hg
  unfold foldS
  rw [foldB_parse hb, foldB_pcs, foldL_nf _ _ _ hb.whole, foldL_nf _ _ _ hp.whole]
  have e : nf ([32] :: (pcs s.data.toList 0 ++ [[32]])) false (decide (0 < ([] : List UInt8).length)) = nf (pcs s.data.toList 0) false (decide (0 < ([] : List UInt8).length)) := by
    rw [nf, if_pos blk_one]
    exact nf_end _ _ _
  rw [e]
/-- plain is: each piece no control character, and good -/
theorem plain_iff {l : List UInt8} : ∀ (d p : Nat), l.length - p = d → ((plainAt l p).2 = true ↔ ∀ P ∈ pcs l p, ctlR ((Lib.decodeL P).1 : Nat) = false ∧ ¬ badP P) := by
  intro d
  induction d using Nat.strongRecOn with
  | _ d ih =>
    intro p hd
    by_cases h : p < l.length
    · have h1 := chN_pos l p
      have h2 := chN_le h
      have hlen : ((l.drop p).take (chN l p)).length = chN l p := by rw [List.length_take, List.length_drop]; omega
      have hne : (l.drop p).take (chN l p) ≠ [] := fun c => by rw [c] at hlen; simp at hlen; omega
      have e : l.drop p = (l.drop p).take (chN l p) ++ l.drop (p + chN l p) := by
        rw [← List.drop_drop, List.take_append_drop]
      have hd2 : (Lib.decodeL ((l.drop p).take (chN l p) ++ l.drop (p + chN l p))).2 = ((l.drop p).take (chN l p)).length := by rw [← e, hlen]; rfl
      have h3 := (piece_whole hne hd2).1
      rw [← e] at h3
      have hk := ih (l.length - (p + chN l p)) (by omega) (p + chN l p) rfl
      have hbc : badC l p = true ↔ badP ((l.drop p).take (chN l p)) := by
        have hbP : badP ((l.drop p).take (chN l p)) ↔ (Lib.decodeL (l.drop p)).1 = 65533 ∧ (Lib.decodeL (l.drop p)).2 = 1 := by unfold badP; rw [← h3]
        rw [hbP]
        unfold badC
        rw [Bool.and_eq_true, beq_iff_eq, beq_iff_eq]
        exact Iff.rfl
      have hcr : ((chR l p : Nat) : Int) = (((Lib.decodeL ((l.drop p).take (chN l p))).1 : Nat) : Int) := by rw [← h3]; rfl
      rw [pcs_on h]
      cases hc : (ctlR (chR l p) || badC l p) with
      | true =>
        rw [plainAt_no h hc]
        constructor
        · intro h; cases h
        · intro hA
          have hA1 := hA _ (List.mem_cons_self ..)
          rw [← hcr] at hA1
          rw [hA1.1, Bool.false_or] at hc
          exact absurd (hbc.1 hc) hA1.2
      | false =>
        rw [plainAt_on h hc, hk]
        rw [Bool.or_eq_false_iff] at hc
        constructor
        · intro hA P hP
          rcases List.mem_cons.1 hP with rfl | hP
          · exact ⟨by rw [← hcr]; exact hc.1, fun hb => by have := hbc.2 hb; rw [this] at hc; simp at hc⟩
          · exact hA P hP
        · intro hA P hP
          exact hA P (List.mem_cons_of_mem _ hP)
    · rw [pcs_end h, plainAt_end h]; simp
theorem plain_blanks {s : ByteArray} (h : (plainAt s.data.toList 0).2 = true) : (plainAt (blanks s).data.toList 0).2 = true := by
  have hp := pcs_parse (l := s.data.toList) _ 0 rfl
  rw [List.drop_zero] at hp
  have hg : AllGood (pcs s.data.toList 0) := fun P hP => ⟨hp.whole P hP, plain_good _ 0 rfl h P hP⟩
  have hA := (plain_iff _ 0 rfl).1 h
  refine (plain_iff _ 0 rfl).2 fun P hP => ?_
  rw [pcs_of (blanks_parse hp hg)] at hP
  have h32 : ctlR ((Lib.decodeL ([32] : List UInt8)).1 : Nat) = false ∧ ¬ badP [32] := by
    refine ⟨?_, blk_good blk_one⟩
    rw [Lib.decodeL_ascii _ _ (by decide)]; rfl
  rcases List.mem_cons.1 hP with rfl | hP
  · exact h32
  · rcases List.mem_append.1 hP with hP | hP
    · exact hA P hP
    · rw [List.mem_singleton] at hP; subst hP; exact h32
theorem norm_blanks {s : ByteArray} (h : (normR s).2 = 0) (h64 : s.size + 2 ≤ 64) : normR (blanks s) = normR s := by
  obtain ⟨h1, h2, h3, h4⟩ := normR_ok h
  have hz := blanks_size s
  have hb := plain_blanks h4
  have e : normR s = (foldS s, 0) := Prod.ext h1 h
  rw [e]
  unfold normR
  rw [if_neg (by omega), hb, if_neg (by decide), fold_blanks h4, if_neg h2]
end Go.Proofs.YtpifkinlaicliaaDoor
