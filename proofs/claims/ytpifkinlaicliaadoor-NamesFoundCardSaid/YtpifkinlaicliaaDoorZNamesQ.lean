/-
  EACH NAME IS FOUND BY ITSELF, nearest to itself, among those that begin so: plain.
-/
import Derived.Test.YtpifkinlaicliaaDoorZFoldGood
namespace Go.Proofs.YtpifkinlaicliaaDoor
open Go.RowKit

section
variable {l : List ByteArray}
theorem nrms_at {i : Nat} (hi : i < l.length) : (l.map nrm).getD i noS = nrm (nmAt l i) := by simp [nmAt, List.getD, hi]
theorem find_self (h : Named l) {i : Nat} (hi : i < l.length) : findR l (nmAt l i) = some i := by
  unfold findR
  rw [if_pos (h.at hi).1, ← nrms_at hi]
  exact findN_at h.nodup (by rw [List.length_map]; exact hi)
theorem find_blanks (h : Named l) {i : Nat} (hi : i < l.length) (h64 : (nmAt l i).size + 2 ≤ 64) : findR l (blanks (nmAt l i)) = some i := by
  have e := norm_blanks (h.at hi).1 h64
  have := find_self h hi
  unfold findR nrm at this ⊢
  rw [e]
  exact this
theorem nrm_fold {s : ByteArray} (h : (normR s).2 = 0) : nrm s = foldS s ∧ (plainAt s.data.toList 0).2 = true := ⟨(normR_ok h).1, (normR_ok h).2.2.2⟩
theorem nrm_inj (h : Named l) {i k : Nat} (hi : i < l.length) (hk : k < l.length) (e : nrm (nmAt l i) = nrm (nmAt l k)) : i = k := by
  rw [← nrms_at hi, ← nrms_at hk] at e
  have h1 := findN_at h.nodup (k := i) (by rw [List.length_map]; exact hi)
  rw [e, findN_at h.nodup (k := k) (by rw [List.length_map]; exact hk)] at h1
  exact (Option.some.inj h1).symm
theorem apart_zero (h : Named l) {i k : Nat} (hi : i < l.length) (hk : k < l.length) : apartS (nrm (nmAt l i)) (nrm (nmAt l k)) = 0 ↔ k = i := by
  unfold apartS
  rw [levL_zero]
  constructor
  · intro e
    obtain ⟨e1, p1⟩ := nrm_fold (h.at hi).1
    obtain ⟨e2, p2⟩ := nrm_fold (h.at hk).1
    rw [e1, e2] at e
    exact (nrm_inj h hi hk (by rw [e1, e2]; exact fold_runes p1 p2 e)).symm
  · rintro rfl; rfl
theorem filter_one {m : List Nat} (hn : m.Nodup) {i : Nat} (hi : i ∈ m) {p : Nat → Bool} (hp : ∀ k ∈ m, p k = true ↔ k = i) : m.filter p = [i] := by
  induction m with
  | nil => cases hi
  | cons x m ih =>
    rw [List.nodup_cons] at hn
    rcases List.mem_cons.1 hi with rfl | hi
    · rw [List.filter_cons_of_pos ((hp i (by simp)).2 rfl)]
      congr 1
      rw [List.filter_eq_nil_iff]
      intro k hk hpk
      have := (hp k (by simp [hk])).1 hpk
      subst this
      exact hn.1 hk
    · have hx : ¬ p x = true := fun h => by
        have := (hp x (by simp)).1 h
        subst this
        exact hn.1 hi
      rw [List.filter_cons_of_neg hx]
      exact ih hn.2 hi fun k hk => hp k (by simp [hk])
theorem near_self (h : Named l) {i : Nat} (hi : i < l.length) : nearL l (nmAt l i) = [i] := by
  have hm : i ∈ sortedL l := sortTo_mem.2 hi
  have h0 : leastF (fun k => apartS (nrm (nmAt l i)) (nrm (nmAt l k))) (sortedL l) = 0 := by
    have := (leastF_le (d := fun k => apartS (nrm (nmAt l i)) (nrm (nmAt l k))) (sortedL l)).2 i hm
    have e := (apart_zero h hi hi).2 rfl
    omega
  unfold nearL
  rw [if_pos (h.at hi).1, nearF_eq, h0]
  refine filter_one (sortTo_nodup _) hm fun k hk => ?_
  have := apart_zero h hi (sortedL_lt hk)
  simpa using this
theorem begins_self (s : ByteArray) : begins s s = true := by
  unfold begins Lib.hasPrefix
  exact List.isPrefixOf_iff_prefix.2 (List.prefix_refl _)
theorem prefix_self (h : Named l) {i : Nat} (hi : i < l.length) : i ∈ prefixL l (nmAt l i) := by
  obtain ⟨e, p⟩ := nrm_fold (h.at hi).1
  unfold prefixL
  rw [if_neg (by rw [p]; decide), List.mem_filter]
  exact ⟨sortTo_mem.2 hi, by rw [← e]; exact begins_self _⟩
end
end Go.Proofs.YtpifkinlaicliaaDoor
