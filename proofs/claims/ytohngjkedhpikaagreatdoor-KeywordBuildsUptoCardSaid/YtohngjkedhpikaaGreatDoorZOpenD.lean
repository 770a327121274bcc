/-
  TEXT: folding makes no text longer (the lines of TextFolds' walk that say so, apart).
-/
import Derived.Test.YtohngjkedhpikaaGreatDoorZTextFoldP
import Derived.Test.YtohngjkedhpikaaGreatDoorZTextJoin
import Derived.Test.YtohngjkedhpikaaGreatDoorZBase
import Derived.ProofKit
import Derived.OpenShut
import Derived.Deep.SlicePairs
import Derived.SizedLaws
import Derived.Test.YtohngjkedhpikaaGreatDoorZTextWords
import Derived.Deep.Slices
import Derived.Test.YtohngjkedhpikaaGreatDoorRows
import Derived.Test.YtohngjkedhpikaaGreatDoorZTextCodesD
namespace Go.Proofs.YtohngjkedhpikaaGreatDoor
open Go.RowKit

theorem fld_len {P : List UInt8} (hw : Whole P) : (fldP P).length = P.length := by
  by_cases hb : badP P
  · rw [fldP_bad hb]
  · rw [fldP_good hb]
    have he := Lib.encode_decode P hw.1 hb
    rw [hw.2, List.take_length] at he
    rcases smallC_cases (Lib.decodeL P).1 with h | ⟨h1, h2, h3⟩ | ⟨h1, h2, h3, h4⟩
    · rw [h, he]
    · rw [h3, (decode_one (by omega) (by omega)).2, ← (decode_one (r := ((Lib.decodeL P).1 : Int)) (by omega) (by omega)).2, he]
    · by_cases hk : ((Lib.decodeL P).1 : Int) ≤ 2047
      · rw [(decode_two (by omega) (by omega)).2, ← (decode_two (r := ((Lib.decodeL P).1 : Int)) (by omega) hk).2, he]
      · omega
theorem foldL_len : ∀ (ps : List (List UInt8)) (w : Bool) (t : List UInt8), (∀ P ∈ ps, Whole P) → (foldL ps w t).length ≤ t.length + (if w then 1 else 0) + ps.flatten.length
  | [], w, t, _ => by simp [foldL]
  | P :: ps, w, t, h => by
    have hP := h P (by simp)
    have hr : ∀ Q ∈ ps, Whole Q := fun Q hQ => h Q (by simp [hQ])
    have hl : 1 ≤ P.length := List.length_pos_iff.2 hP.1
    rw [foldL, List.flatten_cons, List.length_append]
    by_cases hb : blk P
    · rw [if_pos hb]
      have := foldL_len ps (decide (0 < t.length)) t hr
      cases hd : decide (0 < t.length) <;> rw [hd] at this <;> simp at this ⊢ <;> omega
    · rw [if_neg hb]
      have := foldL_len ps false ((if w then t ++ [32] else t) ++ fldP P) hr
      rw [List.length_append, fld_len hP] at this
      cases w <;> simp at this ⊢ <;> omega
theorem foldS_size (s : ByteArray) : (foldS s).size ≤ s.size := by
  have hp := pcs_parse (l := s.data.toList) _ 0 rfl
  rw [List.drop_zero] at hp
  have := foldL_len _ false [] hp.whole
  rw [← foldB_pcs, hp.flat, str_len] at this
  have e : (foldS s).size = (foldB s).length := by rw [← str_len]; rfl
  rw [e]
  simpa using this
end Go.Proofs.YtohngjkedhpikaaGreatDoor
/-
  KEYWORD, FO, PLAIN: following in an index: nobody comes back; over no program.
-/


namespace Go.Proofs.YtohngjkedhpikaaGreatDoor

variable {M : List Mn} {own : ByteArray} {f : List ByteArray}
theorem ix_acyc (hg : GoodM M) {a b : ByteArray} (h : edgeL (ixOf M) a b) : ¬ Rch (edgeL (ixOf M)) b a := by
  intro hr
  obtain ⟨m, hm, hs, h1, h2⟩ := edge_sub h
  have := (hg.has m hm hs).2
  rw [h1, h2] at this
  exact this (hr.mono fun x y => edge_sub)
theorem follow_back (hg : GoodM M) (hf : IsFollow (edgeL (ixOf M)) own f) {s : ByteArray} (hs : s ∈ f) : ¬ Rch (edgeL (ixOf M)) s own := by
  intro hr
  obtain ⟨h1, h2⟩ := (hf.2 s).1 hs
  rcases h2.cases_head with e | ⟨c, hc, hcs⟩
  · exact h1 e.symm
  · exact ix_acyc hg hc (hcs.trans hr)
theorem follow_on (hg : GoodM M) (hf : IsFollow (edgeL (ixOf M)) own f) {s : ByteArray} (hs : s ∈ f) {r : List ByteArray} (hr : IsFollow (edgeL (ixOf M)) s r) {t : ByteArray} (ht : t ∈ r) : ¬ t = s ∧ ¬ t = own ∧ t ∈ f := by
  obtain ⟨h1, h2⟩ := (hr.2 t).1 ht
  obtain ⟨h3, h4⟩ := (hf.2 s).1 hs
  have h5 : ¬ t = own := fun e => follow_back hg hf hs (e ▸ h2)
  exact ⟨h1, h5, (hf.2 t).2 ⟨h5, h4.trans h2⟩⟩
theorem follow_edge (hg : GoodM M) (hf : IsFollow (edgeL (ixOf M)) own f) {c : ByteArray} (h : edgeL (ixOf M) own c) : c ∈ f := by
  refine (hf.2 c).2 ⟨fun e => ?_, .step .refl h⟩
  subst e
  exact ix_acyc hg h .refl
theorem follow_tgt {l : List En} (hf : IsFollow (edgeL l) own f) {s : ByteArray} (hs : s ∈ f) : ∃ e ∈ l, ∃ x ∈ e.sees, foldS x = s := by
  obtain ⟨h1, h2⟩ := (hf.2 s).1 hs
  cases h2 with
  | refl => exact absurd rfl h1
  | step _ he =>
    obtain ⟨e, h, _, _, x, hx, h3⟩ := he
    exact ⟨e, h, x, hx, h3⟩
theorem follow_fold {l : List En} (hf : IsFollow (edgeL l) own f) {s : ByteArray} (hs : s ∈ f) : foldS s = s := by
  obtain ⟨_, _, x, _, rfl⟩ := follow_tgt hf hs
  exact fold_twice x
theorem follow_lt {E : ByteArray → ByteArray → Prop} (hf : IsFollow E own f) {k : Nat} {a b : ByteArray} (ha : f[k]? = some a) (hb : f[k + 1]? = some b) : compareT a b = -1 := by
  obtain ⟨h1, rfl⟩ := List.getElem?_eq_some_iff.1 ha
  obtain ⟨h2, rfl⟩ := List.getElem?_eq_some_iff.1 hb
  have := List.pairwise_iff_getElem.1 hf.1 k (k + 1) h1 h2 (by omega)
  have := compareT_rng f[k] f[k + 1]
  omega
theorem findK_mem {l : List En} {t : ByteArray} {x : Int} : x ∈ findK l t ↔ ∃ (i : Nat) (e : En), l[i]? = some e ∧ x = (i : Int) ∧ e.sub = noB ∧ foldS e.term = t := by
  unfold findK
  rw [mem_pickK]
  constructor
  · rintro ⟨i, e, _, h2, h1, h3⟩
    rw [Bool.and_eq_true, decide_eq_true_eq, decide_eq_true_eq] at h3
    exact ⟨i, e, h1, h2, h3.1, h3.2⟩
  · rintro ⟨i, e, h1, h2, h3, h4⟩
    exact ⟨i, e, (List.getElem?_eq_some_iff.1 h1).1, h2, h1, by simp [h3, h4]⟩
/-- how many sees the first k of these entries have -/
def cntN (l : List En) (F : List Int) : Nat → Nat
  | 0 => 0
  | k + 1 => cntN l F k + ((F[k]?.bind fun x => l[x.toNat]?).map fun e => e.sees.length).getD 0
theorem cntN_succ {l : List En} {F : List Int} {k i : Nat} {e : En} (h : F[k]? = some (i : Int)) (he : l[i]? = some e) : cntN l F (k + 1) = cntN l F k + e.sees.length := by
  rw [cntN, h]
  simp [he]
theorem cntN_pos {l : List En} {F : List Int} {k i : Nat} {e : En} (h : F[k]? = some (i : Int)) (he : l[i]? = some e) (hs : e.sees ≠ []) : ∀ n, k < n → 0 < cntN l F n := by
  intro n hn
  induction n with
  | zero => omega
  | succ n ih =>
    by_cases hk : k < n
    · have := ih hk; rw [cntN]; omega
    · obtain rfl : k = n := by omega
      rw [cntN_succ h he]
      have := List.length_pos_iff.2 hs
      omega
theorem cntN_le {l : List En} {B : Nat} (hb : ∀ e ∈ l, e.sees.length ≤ B) (F : List Int) : ∀ n, cntN l F n ≤ n * B
  | 0 => by simp [cntN]
  | n + 1 => by
    have := cntN_le hb F n
    rw [cntN, Nat.add_mul, Nat.one_mul]
    have : ((F[n]?.bind fun x => l[x.toNat]?).map fun e => e.sees.length).getD 0 ≤ B := by
      cases h : F[n]?.bind fun x => l[x.toNat]? with
      | none => simp
      | some e =>
        rw [Option.bind_eq_some_iff] at h
        obtain ⟨_, _, h⟩ := h
        exact hb e (List.mem_of_getElem? h)
    omega
/-- sees are counted where one follows, and only there -/
theorem cnt_iff (hg : GoodM M) (hf : IsFollow (edgeL (ixOf M)) own f) : cntN (ixOf M) (findK (ixOf M) own) (findK (ixOf M) own).length = 0 ↔ f.length = 0 := by
  constructor
  · intro h0
    rcases f with _ | ⟨x, f⟩
    · rfl
    · exfalso
      obtain ⟨h1, h2⟩ := (hf.2 x).1 (by simp)
      rcases h2.cases_head with e | ⟨c, ⟨e, he, hsub, hte, s, hs, _⟩, _⟩
      · exact h1 e.symm
      · obtain ⟨i, hi⟩ := List.getElem?_of_mem he
        obtain ⟨k, hk⟩ := List.getElem?_of_mem (findK_mem.2 ⟨i, e, hi, rfl, hsub, hte⟩)
        have := cntN_pos hk hi (fun h => by rw [h] at hs; cases hs) _ (List.getElem?_eq_some_iff.1 hk).1
        omega
  · intro h0
    obtain rfl := List.length_eq_zero_iff.1 h0
    have hz : ∀ (k i : Nat) (e : En), (findK (ixOf M) own)[k]? = some (i : Int) → (ixOf M)[i]? = some e → e.sees = [] := by
      intro k i e hk hi
      obtain ⟨j, e', hj, h1, h2, h3⟩ := findK_mem.1 (List.mem_of_getElem? hk)
      obtain rfl : i = j := by omega
      obtain rfl : e = e' := Option.some.inj (hi.symm.trans hj)
      rcases hs : e.sees with _ | ⟨s, ss⟩
      · rfl
      · have := follow_edge hg hf (c := foldS s) ⟨e, List.mem_of_getElem? hi, h2, h3, s, by rw [hs]; simp, rfl⟩
        cases this
    have : ∀ n, n ≤ (findK (ixOf M) own).length → cntN (ixOf M) (findK (ixOf M) own) n = 0 := by
      intro n hn
      induction n with
      | zero => rfl
      | succ n ih =>
        obtain ⟨x, hx⟩ : ∃ x, (findK (ixOf M) own)[n]? = some x := ⟨_, List.getElem?_eq_getElem (by omega)⟩
        obtain ⟨i, e, hi, rfl, _, _⟩ := findK_mem.1 (List.mem_of_getElem? hx)
        rw [cntN_succ hx hi, ih (by omega), hz n i e hx hi]
        rfl
    exact this _ (Nat.le_refl _)
end Go.Proofs.YtohngjkedhpikaaGreatDoor
/-
  OPENING ARGUMENTS, over no program: a slice that reads as data is a slice of pairs, of integers.
-/





namespace Go.Proofs.YtohngjkedhpikaaGreatDoor
open Go.RowKit Go.ChangeShapes Go.WideShapes

theorem spot_none {w : World} {a : Addr} {j : Nat} {v : Value} (h : w.cell? (a.add j) = some v) : a.spot = none ∨ 0 < j := by
  by_cases hj : j = 0
  · subst hj
    simp only [Addr.add, if_true] at h
    left
    unfold World.cell? at h
    split at h
    · split at h
      · cases h
      · rename_i hs; simpa using hs
    · cases h
  · exact .inr (by omega)
theorem addr_of_cell {w : World} {a : Addr} {v : Value} (h : w.cell? (a.add 0) = some v) : a = ⟨a.block, a.off, none⟩ := by
  rcases spot_none h with hs | hs
  · cases a; simp_all
  · omega
section
variable {H : Type} {enc : TypeId × Value → H} {P : Program} {W : World} {base : Nat} {sp : Nat → Bool} {held : Bool}
/-- the reading's shape: nothing, or so many elements -/
def Long (d : DataW H) (n : Nat) : Prop := (d = .nil ∧ n = 0) ∨ ∃ el spr, d = .slice el spr ∧ el.length = n
theorem Long.le {ts : List TypeId} {ds : List (DataW H)} (h : (DataW.weightsEach P ts ds).all (· ≤ reachBytes) = true) {j : Nat} {t e : TypeId} {d : DataW H} {n : Nat} (hl : Long d n) (ht : ts[j]? = some t) (hd : ds[j]? = some d) (hu : P.underlying t = some (.slice e)) {b : Nat} (hb : P.bytesOf e = b) :
    n * b ≤ 140737488351232 := by
  rcases hl with ⟨_, rfl⟩ | ⟨el, spr, rfl, rfl⟩
  · omega
  · have h1 := sized_slice h ht hd hu
    rw [hb] at h1
    have h2 : el.length * b ≤ (el.length + spr.length) * b := Nat.mul_le_mul_right _ (by omega)
    have h3 : reachBytes = 140737488351232 := by decide
    omega
theorem open_prs {t e : TypeId} {f0 f1 : Field} {a : Option Addr} {len cap : Nat} {d : DataW H} {ps : List MemPlace} (ht : P.underlying t = some (.slice e)) (he : P.underlying e = some (.struct #[f0, f1]))
    (ce : P.cellsOf e = 2) (o0 : f0.offset = 0) (o1 : f1.offset = 1) (c0 : P.cellsOf f0.type = 1) (c1 : P.cellsOf f1.type = 1) (i0 : P.underlying f0.type = some (.int .i64)) (i1 : P.underlying f1.type = some (.int .i64))
    (h : DataW.Trod enc P W base sp held t (.slice a len cap) d ps) :
    ∃ l : List (Int × Int), Prs W (.slice a len cap) l ∧ (∀ i, i < l.length → (-9223372036854775808 ≤ p0 l i ∧ p0 l i ≤ 9223372036854775807) ∧ -9223372036854775808 ≤ p1 l i ∧ p1 l i ≤ 9223372036854775807) ∧ Long d l.length := by
  obtain ⟨fuel, hf⟩ := h
  rcases Deep.open_slice_pairs ht he ce o0 o1 c0 c1 hf with ⟨hcs, hx⟩ | ⟨x, l, c, m, n, V0, V1, D0, D1, P0, P1, hcs, _, hl, hm, hmm, hx, hall⟩
  · simp [Value.cells] at hcs
    obtain ⟨rfl, rfl, rfl⟩ := hcs
    simp at hx
    exact ⟨[], Prs.nil W, by simp, .inl ⟨hx.1, rfl⟩⟩
  · simp [Value.cells] at hcs
    obtain ⟨rfl, rfl, rfl⟩ := hcs
    have hlm : len ≤ m := by rw [hmm]; split <;> omega
    have each : ∀ i, i < m → ∃ q : Int × Int, V0 i = .int .i64 q.1 ∧ V1 i = .int .i64 q.2 ∧ (Lit.int .i64 q.1).wf = true ∧ (Lit.int .i64 q.2).wf = true := fun i hi => by
      obtain ⟨_, _, h0, h1⟩ := hall i hi
      obtain ⟨a0, e0, _, w0⟩ := DataW.trod_int i0 h0
      obtain ⟨a1, e1, _, w1⟩ := DataW.trod_int i1 h1
      exact ⟨(a0, a1), by simpa using e0, by simpa using e1, w0, w1⟩
    let q : Nat → Int × Int := fun i => if hi : i < m then (each i hi).choose else (0, 0)
    have hq : ∀ i, i < m → V0 i = .int .i64 (q i).1 ∧ V1 i = .int .i64 (q i).2 ∧ (Lit.int .i64 (q i).1).wf = true ∧ (Lit.int .i64 (q i).2).wf = true := fun i hi => by
      have := (each i hi).choose_spec
      simp only [q, dif_pos hi]
      exact this
    have hlen : ((List.range len).map q).length = len := by simp
    have hget : ∀ i, i < len → ((List.range len).map q).getD i (0, 0) = q i := fun i hi => by simp [List.getD, hi]
    refine ⟨(List.range len).map q, ?_, fun i hi => ?_, .inr ⟨_, _, by simp at hx; exact hx.1, by simp⟩⟩
    · refine ⟨some x, cap, x.block, x.off, by rw [hlen], by omega, by simpa [maxLen] using hm, fun hp => ?_, fun i hi => ?_, fun i hi => ?_⟩
      · rw [hlen] at hp
        have h0 := (hall 0 (by omega)).1
        rw [Nat.zero_mul] at h0
        exact congrArg some (addr_of_cell h0)
      · rw [hlen] at hi
        have h0 := (hall 0 (by omega)).1
        rw [Nat.zero_mul] at h0
        have hx' := addr_of_cell h0
        obtain ⟨g0, _, _, _⟩ := hall i (by omega)
        rw [hx', Addr.add_lit, (hq i (by omega)).1] at g0
        unfold p0
        rw [hget i hi]
        exact later g0
      · rw [hlen] at hi
        have h0 := (hall 0 (by omega)).1
        rw [Nat.zero_mul] at h0
        have hx' := addr_of_cell h0
        obtain ⟨_, g1, _, _⟩ := hall i (by omega)
        rw [hx', Addr.add_lit, (hq i (by omega)).2.1] at g1
        unfold p1
        rw [hget i hi]
        exact later g1
    · rw [hlen] at hi
      unfold p0 p1
      rw [hget i hi]
      exact ⟨bounds_i64 (hq i (by omega)).2.2.1, bounds_i64 (hq i (by omega)).2.2.2⟩
theorem open_ints' {t e : TypeId} {a : Option Addr} {len cap : Nat} {d : DataW H} {ps : List MemPlace} (ht : P.underlying t = some (.slice e)) (he : P.underlying e = some (.int .i64)) (ce : P.cellsOf e = 1)
    (h : DataW.Trod enc P W base sp held t (.slice a len cap) d ps) :
    ∃ l : List Int, Ints W (.slice a len cap) l ∧ (∀ i, i < l.length → -9223372036854775808 ≤ ix l i ∧ ix l i ≤ 9223372036854775807) ∧ Long d l.length := by
  obtain ⟨fuel, hf⟩ := h
  rcases Deep.open_slice ht hf with ⟨hcs, hx⟩ | ⟨x, l, c, m, n, D, Pl, hcs, _, hl, hm, hmm, hx, hall⟩
  · simp [Value.cells] at hcs
    obtain ⟨rfl, rfl, rfl⟩ := hcs
    simp at hx
    exact ⟨[], Ints.nil W, by simp, .inl ⟨hx.1, rfl⟩⟩
  · simp [Value.cells] at hcs
    obtain ⟨rfl, rfl, rfl⟩ := hcs
    have hlm : len ≤ m := by rw [hmm]; split <;> omega
    have each : ∀ i, i < m → ∃ q : Int, W.cell? (x.add i) = some (.int .i64 q) ∧ (Lit.int .i64 q).wf = true := fun i hi => by
      obtain ⟨cs', h1, h2⟩ := hall i hi
      rw [ce, Nat.mul_one] at h1
      obtain ⟨_, hlen, hcell⟩ := World.cells?_some h1
      obtain ⟨q, rfl, _, wq⟩ := DataW.trod_int he h2
      have := hcell 0 (by omega)
      rw [show (x.add i).add 0 = x.add i from if_pos rfl] at this
      exact ⟨q, by simpa using this, wq⟩
    let q : Nat → Int := fun i => if hi : i < m then (each i hi).choose else 0
    have hq : ∀ i, i < m → W.cell? (x.add i) = some (.int .i64 (q i)) ∧ (Lit.int .i64 (q i)).wf = true := fun i hi => by
      have := (each i hi).choose_spec
      simp only [q, dif_pos hi]
      exact this
    have hlen : ((List.range len).map q).length = len := by simp
    have hget : ∀ i, i < len → ix ((List.range len).map q) i = q i := fun i hi => by simp [ix, List.getD, hi]
    refine ⟨(List.range len).map q, ?_, fun i hi => ?_, .inr ⟨_, _, by simp at hx; exact hx.1, by simp⟩⟩
    · refine ⟨some x, cap, x.block, x.off, by rw [hlen], by omega, by simpa [maxLen] using hm, fun hp => ?_, fun i hi => ?_⟩
      · rw [hlen] at hp
        exact congrArg some (addr_of_cell (hq 0 (by omega)).1)
      · rw [hlen] at hi
        have hx' := addr_of_cell (hq 0 (by omega)).1
        have g0 := (hq i (by omega)).1
        rw [hx', Addr.add_lit] at g0
        rw [hget i hi]
        exact later g0
    · rw [hlen] at hi
      rw [hget i hi]
      exact bounds_i64 (hq i (by omega)).2
end
end Go.Proofs.YtohngjkedhpikaaGreatDoor
/-
  OPENING ARGUMENTS, over no program: slices of records, each read by its own decoder.
-/



namespace Go.Proofs.YtohngjkedhpikaaGreatDoor
open Go.RowKit Go.ChangeShapes Go.WideShapes
section
variable {H : Type} {enc : TypeId × Value → H} {P : Program} {W : World} {base : Nat} {sp : Nat → Bool} {held : Bool}
theorem open_recs {α : Type} {c : Enc α} {Good : α → DataW H → Prop} {t e : TypeId} {a : Option Addr} {len cap : Nat} {d : DataW H} {ps : List MemPlace} (ht : P.underlying t = some (.slice e)) (ce : P.cellsOf e = c.k) (hk : 0 < c.k)
    (hdec : ∀ cs n y, cs.length = c.k → DataW.trod enc P W base sp held n e cs = some y → ∃ r, cs = c.enc r ∧ Good r y.1)
    (h : DataW.Trod enc P W base sp held t (.slice a len cap) d ps) :
    ∃ l : List α, Recs c W (.slice a len cap) l ∧ Long d l.length ∧ ∀ (i : Nat) (x : α), l[i]? = some x → ∃ y, Good x y ∧ ∃ el spr, d = .slice el spr ∧ el[i]? = some y := by
  obtain ⟨fuel, hf⟩ := h
  rcases Deep.open_slice ht hf with ⟨hcs, hx⟩ | ⟨x, l, c', m, n, D, Pl, hcs, _, hl, hm, hmm, hx, hall⟩
  · simp [Value.cells] at hcs
    obtain ⟨rfl, rfl, rfl⟩ := hcs
    simp at hx
    exact ⟨[], Recs.nil c W, .inl ⟨hx.1, rfl⟩, fun i x h => by simp at h⟩
  · simp [Value.cells] at hcs
    obtain ⟨rfl, rfl, rfl⟩ := hcs
    have hlm : len ≤ m := by rw [hmm]; split <;> omega
    obtain ⟨rfl, _⟩ := Prod.mk.inj hx
    have each : ∀ i, i < len → ∃ r : α, (∀ j u, (c.enc r)[j]? = some u → W.cell? (x.add (i * c.k + j)) = some u) ∧ Good r (D i) := fun i hi => by
      obtain ⟨cs', h1, h2⟩ := hall i (by omega)
      rw [ce] at h1
      obtain ⟨_, hlen, hcell⟩ := World.cells?_some h1
      obtain ⟨r, rfl, hg⟩ := hdec cs' n _ hlen h2
      refine ⟨r, fun j u hu => ?_, hg⟩
      have hj : j < c.k := by rw [← c.len r]; exact (List.getElem?_eq_some_iff.1 hu).1
      have := hcell j hj
      rw [hu, Deep.add_add] at this
      exact this
    by_cases hlen0 : len = 0
    · subst hlen0
      exact ⟨[], ⟨some x, cap, 0, 0, rfl, by simp, by simpa [maxLen] using hm, fun h => absurd h (Nat.lt_irrefl 0), fun j u hu => by simp [Enc.all] at hu⟩, .inr ⟨_, _, rfl, by simp⟩, fun i x h => by simp at h⟩
    · have r0 : α := (each 0 (by omega)).choose
      let q : Nat → α := fun i => if hi : i < len then (each i hi).choose else r0
      have hq : ∀ i, i < len → (∀ j u, (c.enc (q i))[j]? = some u → W.cell? (x.add (i * c.k + j)) = some u) ∧ Good (q i) (D i) := fun i hi => by
        have := (each i hi).choose_spec
        simp only [q, dif_pos hi]
        exact this
      have hlen : ((List.range len).map q).length = len := by simp
      have hx0 : x = ⟨x.block, x.off, none⟩ := by
        have hz : (c.enc (q 0))[0]? ≠ none := fun e => by
          have := List.getElem?_eq_none_iff.1 e
          rw [c.len] at this; omega
        obtain ⟨u, hu⟩ := Option.ne_none_iff_exists'.1 hz
        have h0 := (hq 0 (by omega)).1 0 u hu
        rw [Nat.zero_mul] at h0
        exact addr_of_cell h0
      refine ⟨(List.range len).map q, ⟨some x, cap, x.block, x.off, by rw [hlen], by omega, by simpa [maxLen] using hm, fun _ => congrArg some hx0, fun j u hu => ?_⟩, .inr ⟨_, _, rfl, by simp⟩, fun i y hy => ?_⟩
      · have hj := (List.getElem?_eq_some_iff.1 hu).1
        rw [Enc.all_length, hlen] at hj
        have hd : j / c.k < len := (Nat.div_lt_iff_lt_mul hk).2 hj
        have hm2 : j % c.k < c.k := Nat.mod_lt _ hk
        have hjj : j / c.k * c.k + j % c.k = j := by rw [Nat.mul_comm]; exact Nat.div_add_mod j c.k
        have hget : ((List.range len).map q)[j / c.k]? = some (q (j / c.k)) := by rw [List.getElem?_map, List.getElem?_range hd]; rfl
        obtain ⟨u', hu'⟩ : ∃ u', (c.enc (q (j / c.k)))[j % c.k]? = some u' := ⟨_, List.getElem?_eq_getElem (by rw [c.len]; exact hm2)⟩
        have := Enc.all_at hget hu'
        rw [hjj, hu] at this
        obtain rfl := Option.some.inj this
        have h1 := (hq _ hd).1 _ _ hu'
        rw [hjj, hx0, Addr.add_lit] at h1
        exact later h1
      · have hi : i < len := by have := (List.getElem?_eq_some_iff.1 hy).1; rwa [hlen] at this
        rw [List.getElem?_map, List.getElem?_range hi] at hy
        obtain rfl := Option.some.inj hy
        exact ⟨D i, (hq i hi).2, _, _, rfl, by rw [List.getElem?_map, List.getElem?_range hi]; rfl⟩
end
end Go.Proofs.YtohngjkedhpikaaGreatDoor
/-
  WHAT THE BOUND OF THE SECOND FORM GIVES: the length of a slice that came in.
-/


namespace Go.Proofs.YtohngjkedhpikaaGreatDoor
open Go.RowKit

theorem bulk_pos {H : Type} (d : DataW H) : 1 ≤ Rows.uptoBulk d := by
  cases d with
  | lit l => cases l <;> simp [Rows.uptoBulk]
  | _ => simp [Rows.uptoBulk]
theorem bulk_len {H : Type} : ∀ l : List (DataW H), l.length ≤ Rows.uptoBulkAll l
  | [] => by simp [Rows.uptoBulkAll]
  | x :: r => by have := bulk_pos x; have := bulk_len r; simp only [Rows.uptoBulkAll, List.length_cons]; omega
theorem bulk_part {H : Type} {d : DataW H} : ∀ {l : List (DataW H)}, d ∈ l → Rows.uptoBulk d ≤ Rows.uptoBulkAll l
  | x :: r, h => by
    simp only [Rows.uptoBulkAll]
    rcases List.mem_cons.1 h with e | e
    · subst e; omega
    · have := bulk_part e; omega
theorem long_small {H : Type} {l : List (DataW H)} (hk : Rows.uptoSmall H l = true) {d : DataW H} (hd : d ∈ l) {n : Nat} (h : Long d n) : n ≤ 1048576 := by
  have hb : Rows.uptoBulkAll l ≤ 1048576 := of_decide_eq_true hk
  have hp := bulk_part hd
  rcases h with ⟨_, rfl⟩ | ⟨el, spr, rfl, rfl⟩
  · omega
  · have := bulk_len el
    simp only [Rows.uptoBulk] at hp
    omega
theorem str_small {H : Type} {l : List (DataW H)} (hk : Rows.uptoSmall H l = true) {s : ByteArray} (h : (DataW.lit (.string s.data.toList) : DataW H) ∈ l) : s.size ≤ 1048576 := by
  have hb : Rows.uptoBulkAll l ≤ 1048576 := of_decide_eq_true hk
  have hp := bulk_part h
  have hs : s.data.toList.length = s.size := by simp
  simp only [Rows.uptoBulk] at hp
  omega
end Go.Proofs.YtohngjkedhpikaaGreatDoor
/-
  OPENING ARGUMENTS, over no program: slices of records that stand for something; their bulk.
-/



namespace Go.Proofs.YtohngjkedhpikaaGreatDoor
open Go.RowKit Go.ChangeShapes Go.WideShapes
theorem long_bulkD {H : Type} {d : DataW H} {n : Nat} (h : Long d n) : n ≤ Rows.uptoBulk d := by
  rcases h with ⟨_, rfl⟩ | ⟨el, spr, rfl, rfl⟩
  · omega
  · have := bulk_len el
    simp only [Rows.uptoBulk]
    omega
theorem bulk_at {H : Type} {d y : DataW H} {el spr : List (DataW H)} {i : Nat} (hd : d = .slice el spr) (hy : el[i]? = some y) : Rows.uptoBulk y ≤ Rows.uptoBulk d := by
  have := bulk_part (List.mem_of_getElem? hy)
  rw [hd]
  simp only [Rows.uptoBulk]
  omega
theorem small_bulkD {H : Type} {l : List (DataW H)} (hk : Rows.uptoSmall H l = true) {d : DataW H} (hd : d ∈ l) {n : Nat} (h : n ≤ Rows.uptoBulk d) : n ≤ 1048576 := by
  have hb : Rows.uptoBulkAll l ≤ 1048576 := of_decide_eq_true hk
  have hp := bulk_part hd
  omega
section
variable {H : Type} {enc : TypeId × Value → H} {P : Program} {W : World} {base : Nat} {sp : Nat → Bool} {held : Bool}
theorem open_seqs {α β : Type} {c : Enc β} {R : World → β → α → Prop} {B : α → DataW H → Prop} {t e : TypeId} {a : Option Addr} {len cap : Nat} {d : DataW H} {ps : List MemPlace} (ht : P.underlying t = some (.slice e)) (ce : P.cellsOf e = c.k) (hk : 0 < c.k)
    (hdec : ∀ cs n y, cs.length = c.k → DataW.trod enc P W base sp held n e cs = some y → ∃ r x, cs = c.enc r ∧ R W r x ∧ B x y.1)
    (h : DataW.Trod enc P W base sp held t (.slice a len cap) d ps) :
    ∃ l : List α, Seqs c R W (.slice a len cap) l ∧ Long d l.length ∧ ∀ (i : Nat) (x : α), l[i]? = some x → ∃ y, B x y ∧ Rows.uptoBulk y ≤ Rows.uptoBulk d := by
  obtain ⟨t, h1, h2, h3⟩ := open_recs (c := c) (Good := fun r y => ∃ x, R W r x ∧ B x y) ht ce hk (fun cs n y hl hy => by
    obtain ⟨r, x, e, hR, hB⟩ := hdec cs n y hl hy
    exact ⟨r, e, x, hR, hB⟩) h
  have each : ∀ i, i < t.length → ∃ x : α, (∀ r, t[i]? = some r → R W r x) ∧ ∃ y, B x y ∧ Rows.uptoBulk y ≤ Rows.uptoBulk d := fun i hi => by
    obtain ⟨y, ⟨x, hR, hB⟩, el, spr, hd, hy⟩ := h3 i t[i] (List.getElem?_eq_getElem hi)
    refine ⟨x, fun r hr => ?_, y, hB, bulk_at hd hy⟩
    rw [List.getElem?_eq_getElem hi] at hr
    obtain rfl := Option.some.inj hr
    exact hR
  by_cases h0 : t.length = 0
  · have : t = [] := List.eq_nil_of_length_eq_zero h0
    subst this
    exact ⟨[], ⟨[], h1, Both.nil⟩, h2, fun i x h => by simp at h⟩
  · have x0 : α := (each 0 (by omega)).choose
    let q : Nat → α := fun i => if hi : i < t.length then (each i hi).choose else x0
    have hq : ∀ i, i < t.length → (∀ r, t[i]? = some r → R W r (q i)) ∧ ∃ y, B (q i) y ∧ Rows.uptoBulk y ≤ Rows.uptoBulk d := fun i hi => by
      have := (each i hi).choose_spec
      simp only [q, dif_pos hi]
      exact this
    have hlen : ((List.range t.length).map q).length = t.length := by simp
    have hget : ∀ i y, ((List.range t.length).map q)[i]? = some y → i < t.length ∧ y = q i := fun i y hy => by
      have hi : i < t.length := by have := (List.getElem?_eq_some_iff.1 hy).1; rwa [hlen] at this
      rw [List.getElem?_map, List.getElem?_range hi] at hy
      exact ⟨hi, (Option.some.inj hy).symm⟩
    refine ⟨(List.range t.length).map q, ⟨t, h1, hlen.symm, fun i r y hr hy => ?_⟩, by rw [hlen]; exact h2, fun i y hy => ?_⟩
    · obtain ⟨hi, rfl⟩ := hget i y hy
      exact (hq i hi).1 r hr
    · obtain ⟨hi, rfl⟩ := hget i y hy
      exact (hq i hi).2
end
end Go.Proofs.YtohngjkedhpikaaGreatDoor
