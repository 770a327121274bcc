/-
  THE DIRECTORY OF SOURCES, OR THE FIRST FAULT, PLAIN.
-/
import Derived.Test.YtpifkinlaicliaaGreatDoorZTocFault
namespace Go.Proofs.YtpifkinlaicliaaGreatDoor
open Go.RowKit

/-- topic t, behind the rows l0, is refused with code c -/
def badD (l0 : List Dn) (t : Tq) (c : Int) : Prop := (¬ (normR t.name).2 = 0 ∧ c = (normR t.name).2) ∨ ((normR t.name).2 = 0 ∧ nrm t.name ∈ l0.map Dn.norm ∧ c = 71)
theorem badD_code {l0 : List Dn} {t : Tq} {c : Int} (h : badD l0 t c) : ¬ c = 0 := by
  rcases h with ⟨h, rfl⟩ | ⟨_, _, rfl⟩
  · exact h
  · decide
theorem badD_bad {l0 : List Dn} {t : Tq} {c : Int} {a b : Nat} (h : badD l0 t c) (g : GoodD (l0 ++ [rowD a b t])) : False := by
  obtain ⟨h1, h2⟩ := g.last
  rcases h with ⟨h, _⟩ | ⟨_, h, _⟩
  · exact h h1
  · exact h2 h
theorem badD_eq {l0 : List Dn} {t : Tq} {c d : Int} (h : badD l0 t c) (k : badD l0 t d) : c = d := by
  rcases h with ⟨h, rfl⟩ | ⟨h, _, rfl⟩
  · rcases k with ⟨k, rfl⟩ | ⟨k, _, rfl⟩
    · rfl
    · exact absurd k h
  · rcases k with ⟨k, rfl⟩ | ⟨k, _, rfl⟩
    · exact absurd h k
    · rfl
def ErrD (S : List (List Tq)) (f : Flt) : Prop := ∃ (a b : Nat) (T : List Tq) (t : Tq) (c : Int), S[a]? = some T ∧ T[b]? = some t ∧ GoodD (flatD S a ++ rowsD a T b) ∧ badD (flatD S a ++ rowsD a T b) t c ∧ f = ⟨c, a, t.line, 0, t.name⟩
theorem ErrD.not_good {S : List (List Tq)} {f : Flt} (h : ErrD S f) (g : GoodD (flatD S S.length)) : False := by
  obtain ⟨a, b, T, t, c, h1, h2, _, h4, _⟩ := h
  exact badD_bad h4 (g.pre (flatD_at h1 h2).2)
theorem rows_pre {S : List (List Tq)} {a a' b b' : Nat} {T T' : List Tq} {t : Tq} (h1 : S[a]? = some T) (h2 : T[b]? = some t) (h1' : S[a']? = some T') (hlt : a < a' ∨ (a = a' ∧ b < b')) :
    flatD S a ++ rowsD a T b ++ [rowD a b t] <+: flatD S a' ++ rowsD a' T' b' := by
  have hb := (List.getElem?_eq_some_iff.1 h2).1
  rcases hlt with h | ⟨rfl, h⟩
  · have p1 : flatD S (a + 1) <+: flatD S a' := flatD_pre S h
    rw [flatD_succ h1] at p1
    refine List.IsPrefix.trans (List.IsPrefix.trans ?_ p1) (List.prefix_append _ _)
    rw [List.append_assoc, ← rowsD_succ h2]
    exact (List.prefix_append_right_inj _).2 (rowsD_pre a T hb)
  · obtain rfl : T = T' := Option.some.inj (h1.symm.trans h1')
    rw [List.append_assoc, ← rowsD_succ h2]
    exact (List.prefix_append_right_inj _).2 (rowsD_pre a T h)
theorem ErrD.unique {S : List (List Tq)} {f g : Flt} (h : ErrD S f) (k : ErrD S g) : f = g := by
  obtain ⟨a, b, T, t, c, h1, h2, h3, h4, rfl⟩ := h
  obtain ⟨a', b', T', t', c', k1, k2, k3, k4, rfl⟩ := k
  by_cases e : a < a' ∨ (a = a' ∧ b < b')
  · exact (badD_bad h4 (k3.pre (rows_pre h1 h2 k1 e))).elim
  · by_cases e' : a' < a ∨ (a' = a ∧ b' < b)
    · exact (badD_bad k4 (h3.pre (rows_pre k1 k2 h1 e'))).elim
    · obtain rfl : a = a' := by omega
      obtain rfl : b = b' := by omega
      obtain rfl : T = T' := Option.some.inj (h1.symm.trans k1)
      obtain rfl : t = t' := Option.some.inj (h2.symm.trans k2)
      rw [badD_eq h4 k4]
/-- what is to be answered -/
def ColD (S : List (List Tq)) : Except Flt (List Dn) → Prop
  | .error f => ((64 < S.length ∨ 1000 < totD S S.length) ∧ f = ⟨2, 0, 0, 0, ⟨#[]⟩⟩) ∨ (S.length ≤ 64 ∧ totD S S.length ≤ 1000 ∧ ErrD S f)
  | .ok l => S.length ≤ 64 ∧ totD S S.length ≤ 1000 ∧ l = flatD S S.length ∧ GoodD l
theorem ColD.unique {S : List (List Tq)} : ∀ {r s : Except Flt (List Dn)}, ColD S r → ColD S s → r = s
  | .error f, .error g, h, k => by
    rcases h with ⟨_, rfl⟩ | ⟨_, _, h⟩
    · rcases k with ⟨_, rfl⟩ | ⟨_, _, k⟩
      · rfl
      · omega
    · rcases k with ⟨_, rfl⟩ | ⟨_, _, k⟩
      · omega
      · rw [h.unique k]
  | .error f, .ok l, h, ⟨k1, k2, k3, k4⟩ => by
    rcases h with ⟨_, rfl⟩ | ⟨_, _, h⟩
    · omega
    · exact (h.not_good (k3 ▸ k4)).elim
  | .ok l, .error g, ⟨k1, k2, k3, k4⟩, h => by
    rcases h with ⟨_, rfl⟩ | ⟨_, _, h⟩
    · omega
    · exact (h.not_good (k3 ▸ k4)).elim
  | .ok l, .ok m, ⟨_, _, h, _⟩, ⟨_, _, k, _⟩ => by rw [h, k]
theorem ColD.code {S : List (List Tq)} {f : Flt} (h : ColD S (.error f)) : ¬ f.code = 0 := by
  rcases h with ⟨_, rfl⟩ | ⟨_, _, a, b, T, t, c, _, _, _, h, rfl⟩
  · decide
  · exact badD_code h
end Go.Proofs.YtpifkinlaicliaaGreatDoor
