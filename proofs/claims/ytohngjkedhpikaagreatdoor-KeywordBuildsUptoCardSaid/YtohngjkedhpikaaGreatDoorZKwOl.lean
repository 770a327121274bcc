/-
  KEYWORD, OL, PLAIN: how it is told that what is one is written alike; over no program.
-/
import Derived.Test.YtohngjkedhpikaaGreatDoorZKwOr
namespace Go.Proofs.YtohngjkedhpikaaGreatDoor

def nlB : ByteArray := ⟨#[10]⟩
def gK (m : Mn) : ByteArray := foldS m.term ++ nlB ++ foldS m.sub
def gS (m : Mn) : ByteArray := nlB ++ foldS m.aim
/-- the terms and the others, as they were written, of all mentions so far -/
structure AlkI (M : List Mn) (F G : ByteArray → Option ByteArray) : Prop where
  t : ∀ m ∈ M, F (foldS m.term) = some m.term
  k : ∀ m ∈ M, m.see = 0 → G (gK m) = some m.sub
  s : ∀ m ∈ M, m.see = 1 → G (gS m) = some m.aim
def putB (F : ByteArray → Option ByteArray) (x y : ByteArray) : ByteArray → Option ByteArray := fun q => if q = x then some y else F q
theorem putB_old {F : ByteArray → Option ByteArray} {x y : ByteArray} (h : F x = none ∨ F x = some y) {q z : ByteArray} (hq : F q = some z) : putB F x y q = some z := by
  unfold putB
  split
  · rename_i e
    subst e
    rcases h with h | h
    · rw [h] at hq; cases hq
    · rw [← hq, h]
  · exact hq
theorem putB_own (F : ByteArray → Option ByteArray) (x y : ByteArray) : putB F x y x = some y := if_pos rfl
theorem AlkI.nil : AlkI [] (fun _ => none) (fun _ => none) := ⟨fun m h => by simp at h, fun m h => by simp at h, fun m h => by simp at h⟩
variable {M : List Mn} {F G : ByteArray → Option ByteArray} {m : Mn}
theorem AlkI.key (h : AlkI M F G) (h0 : m.see = 0) (h1 : F (foldS m.term) = none ∨ F (foldS m.term) = some m.term) (h2 : G (gK m) = none ∨ G (gK m) = some m.sub) :
    AlkI (M ++ [m]) (putB F (foldS m.term) m.term) (putB G (gK m) m.sub) := by
  refine ⟨fun x hx => ?_, fun x hx hs => ?_, fun x hx hs => ?_⟩
  all_goals
    rw [List.mem_append, List.mem_singleton] at hx
    rcases hx with hx | rfl
  · exact putB_old h1 (h.t x hx)
  · exact putB_own _ _ _
  · exact putB_old h2 (h.k x hx hs)
  · exact putB_own _ _ _
  · exact putB_old h2 (h.s x hx hs)
  · omega
theorem AlkI.see (h : AlkI M F G) (h0 : m.see = 1) (h1 : F (foldS m.term) = none ∨ F (foldS m.term) = some m.term) (h2 : G (gS m) = none ∨ G (gS m) = some m.aim) :
    AlkI (M ++ [m]) (putB F (foldS m.term) m.term) (putB G (gS m) m.aim) := by
  refine ⟨fun x hx => ?_, fun x hx hs => ?_, fun x hx hs => ?_⟩
  all_goals
    rw [List.mem_append, List.mem_singleton] at hx
    rcases hx with hx | rfl
  · exact putB_old h1 (h.t x hx)
  · exact putB_own _ _ _
  · exact putB_old h2 (h.k x hx hs)
  · omega
  · exact putB_old h2 (h.s x hx hs)
  · exact putB_own _ _ _
theorem AlkI.alike (h : AlkI M F G) : AlikeM M := by
  refine ⟨fun x hx y hy e => ?_, fun x hx y hy sx sy e => ?_, fun x hx y hy sx sy e => ?_⟩
  · have h1 := h.t x hx
    rw [e, h.t y hy] at h1
    exact (Option.some.inj h1).symm
  · have h1 := h.k x hx sx
    have e' : gK x = gK y := by
      have e1 : foldS x.term = foldS y.term := congrArg Prod.fst e
      have e2 : foldS x.sub = foldS y.sub := congrArg Prod.snd e
      unfold gK; rw [e1, e2]
    rw [e', h.k y hy sy] at h1
    exact (Option.some.inj h1).symm
  · have h1 := h.s x hx sx
    have e' : gS x = gS y := by unfold gS; rw [e]
    rw [e', h.s y hy sy] at h1
    exact (Option.some.inj h1).symm
theorem putB_map (F : ByteArray → Option ByteArray) (x y : ByteArray) : (fun q => (putB F x y q).map Value.string) = fun q => if q = x then some (Value.string y) else (F q).map Value.string := by
  funext q
  unfold putB
  split <;> rfl
end Go.Proofs.YtohngjkedhpikaaGreatDoor
