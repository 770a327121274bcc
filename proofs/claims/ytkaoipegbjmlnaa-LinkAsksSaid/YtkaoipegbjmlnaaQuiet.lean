/-
  A REGION IN THE TEXT's ORDER BY THE QUIET WALK (guards over calls that only read): as Derived/Deep/Quiet.lean's theorem for regions that draw.
-/
import Derived.Test.YtkaoipegbjmlnaaBase
namespace Go.Proofs.Ytkaoipegbjmlnaa
open Go.RowKit
theorem wpList_of_quiet {P : Program} {ops : Array Oper} {C : World → Prop} {K : Act → Prop} {Q : Exit → Act → World → Prop} (hQ : ∀ a w, C w → K a → Q .normal a w) :
    ∀ (l : List Oper) (a : Act) (w : World), C w → wpQuiet P ops C K l a → wpList P ops Q l a w
  | [], a, w, hw, h => hQ a w hw h
  | o :: rest, a, w, hw, h => by
    unfold wpQuiet at h
    unfold wpList
    split
    · rename_i hwant
      rw [if_pos hwant] at h
      exact .inl (Oper.wp_of_quiet hw (fun a' w' hw' h' => wpList_of_quiet hQ rest a' w' hw' h') h)
    · rename_i hwant
      rw [if_neg hwant] at h
      exact wpList_of_quiet hQ rest _ w hw h
/-- the very world -/
structure IsW (w : World) where
  w' : World
  same : w = w'
instance (w : World) : Nonempty (IsW w) := ⟨⟨w, rfl⟩⟩
/-- a region in the text's order, of operations and calls that leave the world as it was -/
theorem wp_region_calm {P : Program} {id : Nat} {Q : Exit → Act → World → Prop} {a : Act} {w : World} {l : List Oper}
    (h : wpQuiet P l.toArray (fun w' => ∃ W : IsW w, w' = W.w') (fun a' => Q .normal a' w) l a) : (Code.region id l.toArray false).wp P Q a w :=
  wp_region_lit (wpList_of_quiet (C := fun w' => ∃ W : IsW w, w' = W.w') (K := fun a' => Q .normal a' w) (fun a' w' hw h' => by obtain ⟨W, rfl⟩ := hw; rw [← W.same]; exact h') l a w ⟨⟨w, rfl⟩, rfl⟩ h)
theorem Calls.calm {P : Program} {f : FuncId} {args : Array Value} {w : World} {W : IsW w} {v : Value} (h : Calls P f args W.w' fun e w' => e = .returned v ∧ W.w' = w') :
    Calls P f args W.w' fun e w'' => e = .returned v ∧ ∃ V : IsW w, w'' = V.w' := h.mono fun _ _ ⟨a, b⟩ => ⟨a, ⟨_, W.same.trans b⟩, rfl⟩
/-- a region in the text's order, of operations that read and calls that only add to memory -/
theorem wp_region_mild {P : Program} {id : Nat} {Q : Exit → Act → World → Prop} {a : Act} {w0 w : World} {l : List Oper} (h0 : Old w0 w)
    (h : wpQuiet P l.toArray (fun w' => ∃ W : OldW w0, w' = W.w') (fun a' => ∀ W : OldW w0, Q .normal a' W.w') l a) : (Code.region id l.toArray false).wp P Q a w :=
  wp_region_lit (wpList_of_quiet (C := fun w' => ∃ W : OldW w0, w' = W.w') (K := fun a' => ∀ W : OldW w0, Q .normal a' W.w') (fun a' w' hw h' => by obtain ⟨W, rfl⟩ := hw; exact h' W) l a w ⟨⟨w, h0⟩, rfl⟩ h)
end Go.Proofs.Ytkaoipegbjmlnaa
