/-
  DRAWS ONLY GROW, over no program: a goroutine's step, the machine's step, a call.
-/
import Derived.Test.YtpifkinlaicliaaDoorZDrawn
namespace Go.Proofs.YtpifkinlaicliaaDoor
open Go

theorem die_drawn (p : Program) (fr : Frame) (d : Dying) (w : World) : gD w.drawn (die p fr d w) := by
  unfold die
  split
  · exact writeOn_drawn _ _ _ _ _
  · split
    · split
      · exact Nat.le_refl _
      · exact endWith_drawn _ _ _ _ _
    · dsimp only
      split
      · exact Nat.le_refl _
      · split
        · rename_i heq
          exact run_ok heq
        · trivial
      · refine gD.after _ ?_
        rename_i t recv name _
        have h := runT_drawn p (invoke (.fn (.method name) #[]) #[.iface t recv]) w #[]
        generalize (invoke (.fn (.method name) #[]) #[.iface t recv]).runT p w #[] = re at *
        obtain ⟨r, es⟩ := re
        dsimp only at h ⊢
        split
        · exact h
        · exact h
        · trivial
        · exact (endPrinting_drawn _ _ _ _).le h
        · trivial
      · trivial
theorem doReturn_drawn (p : Program) (main : Bool) (fr : Frame) (callers : List Frame) (dying : Option Dying) (v : Value) (w : World) : gD w.drawn (doReturn p main fr callers dying v w) := by
  unfold doReturn
  repeat' (first | exact Nat.le_refl _ | trivial | split | dsimp only)
theorem callDeferred_drawn (p : Program) (fr : Frame) (callers : List Frame) (dying : Option Dying) (d : Deferred) (w : World) : gD w.drawn (callDeferred p fr callers dying d w) := by
  unfold callDeferred
  refine iteInduction (motive := gD w.drawn) (fun _ => trivial) (fun _ => ?_)
  have h := runT_drawn p (invoke d.target d.args) w #[]
  generalize (invoke d.target d.args).runT p w #[] = re at *
  obtain ⟨r, es⟩ := re
  dsimp only at h ⊢
  refine gD.after _ ?_
  repeat' (first | exact h | trivial | exact (endFatal_drawn _ _ _ _ _ _).le h | exact (endThrow_drawn _ _ _).le h | split)
theorem unwind_drawn (p : Program) (main : Bool) (fr : Frame) (callers : List Frame) (dying : Option Dying) (w : World) : gD w.drawn (unwind p main fr callers dying w) := by
  unfold unwind
  split
  · rename_i block _ _ _
    have h := runT_drawn p (Instr.takeDeferred block) w #[]
    generalize (Instr.takeDeferred block).runT p w #[] = re at *
    obtain ⟨r, es⟩ := re
    dsimp only at h ⊢
    refine gD.after _ ?_
    split
    · exact h
    · trivial
  · exact callDeferred_drawn _ _ _ _ _ _
  · split
    · trivial
    · split
      · trivial
      · split
        · exact Nat.le_refl _
        · split
          · split
            · exact Nat.le_refl _
            · split
              · rename_i heq
                exact run_ok heq
              · trivial
              · trivial
          · split
            · exact endPrinting_drawn _ _ _ _
            · trivial
    · split
      · exact doReturn_drawn _ _ _ _ _ _ _
      · rename_i fn _
        have h := runT_drawn p (results fn fr.tmps) w #[]
        generalize (results fn fr.tmps).runT p w #[] = re at *
        obtain ⟨r, es⟩ := re
        dsimp only at h ⊢
        refine gD.after _ ?_
        split
        · exact (doReturn_drawn _ _ _ _ _ _ _).le h
        · trivial
        · trivial
theorem early_drawn (p : Program) (fr : Frame) (callers : List Frame) (dying : Option Dying) (g : Nat) (w : World) : gD w.drawn (early p fr callers dying g w) := by
  unfold early
  dsimp only
  repeat' (first | exact Nat.le_refl _ | trivial | split | dsimp only)
  all_goals first
    | (rename_i h; have h2 := run_ok h; exact h2)
    | (rename_i h _; have h2 := run_ok h; exact h2)
    | (rename_i h _ _; have h2 := run_ok h; exact h2)
    | (rename_i h _ _ _; have h2 := run_ok h; exact h2)
    | (rename_i h _ _ _ _; have h2 := run_ok h; exact h2)
theorem apply_drawn (p : Program) (listen : Bool) (fr : Frame) (callers : List Frame) (dying : Option Dying) (s : Sem Next) (w : World) : gD w.drawn (stepG.apply p listen fr callers dying s w) := by
  unfold stepG.apply
  have h : resD w.drawn ((if listen = true then s.runT p w #[] else (s.run p w, #[])) : Result Next × Array Event).1 := by
    split
    · exact runT_drawn p s w #[]
    · exact run_drawn p s w
  generalize ((if listen = true then s.runT p w #[] else (s.run p w, #[])) : Result Next × Array Event) = re at *
  obtain ⟨r, es⟩ := re
  dsimp only at h ⊢
  refine gD.after _ ?_
  repeat' (first | exact h | trivial | exact (endFatal_drawn _ _ _ _ _ _).le h | exact (endThrow_drawn _ _ _).le h | exact (early_drawn _ _ _ _ _ _).le h | split)
theorem oper_drawn (p : Program) (listen : Bool) (fr : Frame) (callers : List Frame) (dying : Option Dying) (w : World) : gD w.drawn (stepG.oper p listen fr callers dying w) := by
  unfold stepG.oper
  split
  · trivial
  · split
    · exact apply_drawn _ _ _ _ _ _ _
    · exact apply_drawn _ _ _ _ _ _ _
theorem run_halt {α : Type} {p : Program} {s : Sem α} {w w' : World} {a : Halt} (h : s.run p w = .halt a w') : w.drawn ≤ w'.drawn := by
  have := run_drawn p s w
  rw [h] at this
  exact this
theorem runT_ok1 {α : Type} {p : Program} {s : Sem α} {w w' : World} {a : α} {es : Array Event} (h : (s.runT p w es).1 = .ok a w') : w.drawn ≤ w'.drawn := by
  have := runT_drawn p s w es
  rw [h] at this
  exact this
theorem runT_halt1 {α : Type} {p : Program} {s : Sem α} {w w' : World} {a : Halt} {es : Array Event} (h : (s.runT p w es).1 = .halt a w') : w.drawn ≤ w'.drawn := by
  have := runT_drawn p s w es
  rw [h] at this
  exact this
theorem gD.elim {α : Type} {d : Nat} {o : Option α} {a : GStep} {f : α → GStep} (ha : gD d a) (hf : ∀ x, gD d (f x)) : gD d (o.elim a f) := by
  cases o
  · exact ha
  · exact hf _
theorem exec_drawn (p : Program) (main listen : Bool) (fr : Frame) (callers : List Frame) (dying : Option Dying) (w : World) : gD w.drawn (stepG.exec p main listen fr callers dying w) := by
  unfold stepG.exec
  dsimp only
  repeat' (first
    | exact Nat.le_refl _
    | trivial
    | exact apply_drawn _ _ _ _ _ _ _
    | exact oper_drawn _ _ _ _ _ _
    | split)
  all_goals first
    | (refine gD.after _ ?_; first
        | trivial
        | (rename_i h; have h2 := runT_ok1 h; first | exact h2 | exact (doReturn_drawn _ _ _ _ _ _ _).le h2 | exact (apply_drawn _ _ _ _ _ _ _).le h2)
        | (rename_i h; have h2 := runT_halt1 h; exact h2))
    | (refine gD.elim ?_ (fun _ => by first | exact Nat.le_refl _ | exact apply_drawn _ _ _ _ _ _ _); first
        | trivial
        | (refine gD.after _ ?_; first
            | trivial
            | (rename_i h; have h2 := runT_ok1 h; first | exact h2 | exact (doReturn_drawn _ _ _ _ _ _ _).le h2)))
    | (rename_i h; have h2 := run_ok h; exact h2)
theorem stepG_drawn (p : Program) (main : Bool) (g : Goroutine) (w : World) (listen : Bool) : gD w.drawn (stepG p main g w listen) := by
  unfold stepG
  dsimp only
  split
  · exact die_drawn _ _ _ _
  · exact exec_drawn _ _ _ _ _ _ _
  · exact unwind_drawn _ _ _ _ _ _
/-! ### the machine's step -/
def mD (d : Nat) : Stepped → Prop
  | .next m => d ≤ m.world.drawn
  | _ => True
theorem look_drawn (p : Program) (gs : Array Goroutine) (rest : Rest) (w : World) : mD w.drawn (look p gs rest w) := by
  unfold look
  dsimp only
  repeat' (first
    | exact Nat.le_refl _
    | trivial
    | (rename_i h; have h2 := run_ok h; exact h2)
    | split)
theorem communicate_drawn (p : Program) (rest : Rest) (gs : Array Goroutine) (i : Nat) (g : Goroutine) (cases_ : Array CommCase) (blocking : Bool) (shape : CommShape) (w : World) : mD w.drawn (communicate p rest gs i g cases_ blocking shape w).1 := by
  unfold communicate
  dsimp only
  split
  · trivial
  · split
    · split
      · split
        · rename_i h
          unfold waitingAt at h
          split at h
          · split at h
            · cases h; exact Nat.le_refl _
            · cases h
          · cases h; exact Nat.le_refl _
        · trivial
      · exact Nat.le_refl _
    · split
      · trivial
      · rename_i heq
        have h1 := run_ok heq
        clear heq
        repeat' (first
          | exact h1
          | trivial
          | (rename_i h; have h2 := run_halt h; exact Nat.le_trans h1 h2)
          | (rename_i h; have h2 := run_ok h; exact Nat.le_trans h1 h2)
          | split)
end Go.Proofs.YtpifkinlaicliaaDoor
