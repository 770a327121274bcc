/-
  LINK, K, PLAIN: the chapter's first examples.
-/
import Derived.Test.YtkaoipegbjmlnaaLinkI
namespace Go.Proofs.Ytkaoipegbjmlnaa

def exL : List Rfr := [⟨0, 1, 0, ⟨#[]⟩, 0, 0⟩, ⟨0, 2, 0, ⟨#[]⟩, 0, 0⟩, ⟨1, 3, 0, ⟨#[]⟩, 0, 0⟩, ⟨2, 3, 0, ⟨#[]⟩, 0, 0⟩, ⟨3, 0, 0, ⟨#[]⟩, 0, 0⟩]
theorem ex_out : outOf exL 4 0 = [1, 2] := by decide
theorem ex_lone : loneOf exL 5 = [4] := by decide
theorem ex_reach {D : Int → Option Nat} (h : ∀ x d, D x = some d ↔ DistIs (edge exL 5) 3 x d) : below 5 (fun x => (D x).isSome) = [0, 1, 2, 3] := by
  have d3 : D 3 = some 0 := (h 3 0).2 (DistIs.self _ _)
  have w0 : Walk (edge exL 5) 1 3 0 := (Walk.nil 3).snoc (by decide)
  have d0 : D 0 = some 1 := (h 0 1).2 ⟨w0, fun m hm => by
    cases m with
    | zero => cases hm
    | succ m => omega⟩
  have two : ∀ x : Int, x ≠ 3 → edge exL 5 0 x = true → edge exL 5 3 x = false → D x = some 2 := fun x h3 h1 h2 => (h x 2).2 ⟨w0.snoc h1, fun m hm => by
    match m, hm with
    | 0, hm => cases hm; exact absurd rfl h3
    | 1, hm =>
      cases hm with
      | snoc h e =>
        cases h
        rw [h2] at e; cases e
    | m + 2, _ => omega⟩
  have d1 : D 1 = some 2 := two 1 (by decide) (by decide) (by decide)
  have d2 : D 2 = some 2 := two 2 (by decide) (by decide) (by decide)
  have d4 : D 4 = none := by
    cases hd : D 4 with
    | none => rfl
    | some d =>
      obtain ⟨hw, _⟩ := (h 4 d).1 hd
      cases hw with
      | snoc _ e =>
        exfalso
        simp [edge, exL, cntR] at e
  have e : below 5 (fun x => (D x).isSome) = ([0, 1, 2, 3, 4] : List Int).filter fun x => (D x).isSome := rfl
  rw [e]
  simp [d0, d1, d2, d3, d4]
theorem ex_way {D : Int → Option Nat} (h : ∀ x d, D x = some d ↔ DistIs (fun a b => edge exL 4 b a) 3 x d) : D 0 = some 2 ∧ (0 : Int) :: wayL (edge exL 4) 4 D 2 0 = [0, 1, 3] := by
  have d3 : D 3 = some 0 := (h 3 0).2 (DistIs.self _ _)
  have w1 : Walk (fun a b => edge exL 4 b a) 1 3 1 := (Walk.nil 3).snoc (by decide)
  have d1 : D 1 = some 1 := (h 1 1).2 ⟨w1, fun m hm => by
    cases m with
    | zero => cases hm
    | succ m => omega⟩
  have d0 : D 0 = some 2 := (h 0 2).2 ⟨w1.snoc (by decide), fun m hm => by
    match m, hm with
    | 0, hm => cases hm
    | 1, hm =>
      cases hm with
      | snoc h e =>
        cases h
        exact absurd e (by decide)
    | m + 2, _ => omega⟩
  refine ⟨d0, ?_⟩
  have b0 : below 4 (edge exL 4 0) = [1, 2] := by decide
  have b1 : below 4 (edge exL 4 1) = [3] := by decide
  have n0 : nextOf (edge exL 4) 4 D 0 1 = 1 := by
    unfold nextOf
    rw [b0]
    simp [d1]
  have n1 : nextOf (edge exL 4) 4 D 1 0 = 3 := by
    unfold nextOf
    rw [b1]
    simp [d3]
  show (0 : Int) :: nextOf (edge exL 4) 4 D 0 1 :: nextOf (edge exL 4) 4 D (nextOf (edge exL 4) 4 D 0 1) 0 :: [] = _
  rw [n0, n1]
end Go.Proofs.Ytkaoipegbjmlnaa
