/-
  DRAWS ONLY GROW, over no program: a goroutine's step, the machine's step, a call.
-/
import Derived.Test.YtpifkinlaicliaaGreatDoorZDrawn
import Derived.Sort.Grow
namespace Go.Proofs.YtpifkinlaicliaaGreatDoor
open Go

theorem die_drawn (p : Program) (fr : Frame) (d : Dying) (w : World) : gD w.drawn (die p fr d w) := by
  unfold die
  split
  · exact writeOn_drawn _ _ _ _ _
  · split
    · split
      · exact Nat.le_refl _
      · exact endWith_drawn _ _ _ _ _
    · dsimp only
      split
      · exact Nat.le_refl _
      · split
        · rename_i heq
          exact run_ok heq
        · trivial
      · refine gD.after _ ?_
        rename_i t recv name _
        have h := runT_drawn p (invoke (.fn (.method name) #[]) #[.iface t recv]) w #[]
        generalize (invoke (.fn (.method name) #[]) #[.iface t recv]).runT p w #[] = re at *
        obtain ⟨r, es⟩ := re
        dsimp only at h ⊢
        split
        · exact h
        · exact h
        · trivial
        · exact (endPrinting_drawn _ _ _ _).le h
        · trivial
      · trivial
theorem doReturn_drawn (p : Program) (main : Bool) (fr : Frame) (callers : List Frame) (dying : Option Dying) (v : Value) (w : World) : gD w.drawn (doReturn p main fr callers dying v w) := by
  unfold doReturn
  repeat' (first | exact Nat.le_refl _ | trivial | split | dsimp only)
theorem callDeferred_drawn (p : Program) (fr : Frame) (callers : List Frame) (dying : Option Dying) (d : Deferred) (w : World) : gD w.drawn (callDeferred p fr callers dying d w) := by
  unfold callDeferred
  refine iteInduction (motive := gD w.drawn) (fun _ => trivial) (fun _ => ?_)
  have h := runT_drawn p (invoke d.target d.args) w #[]
  generalize (invoke d.target d.args).runT p w #[] = re at *
  obtain ⟨r, es⟩ := re
  dsimp only at h ⊢
  refine gD.after _ ?_
  repeat' (first | exact h | trivial | exact (endFatal_drawn _ _ _ _ _ _).le h | exact (endThrow_drawn _ _ _).le h | split)
theorem unwind_drawn (p : Program) (main : Bool) (fr : Frame) (callers : List Frame) (dying : Option Dying) (w : World) : gD w.drawn (unwind p main fr callers dying w) := by
  unfold unwind
  split
  · rename_i block _ _ _
    have h := runT_drawn p (Instr.takeDeferred block) w #[]
    generalize (Instr.takeDeferred block).runT p w #[] = re at *
    obtain ⟨r, es⟩ := re
    dsimp only at h ⊢
    refine gD.after _ ?_
    split
    · exact h
    · trivial
  · exact callDeferred_drawn _ _ _ _ _ _
  · split
    · trivial
    · split
      · trivial
      · split
        · exact Nat.le_refl _
        · split
          · split
            · exact Nat.le_refl _
            · split
              · rename_i heq
                exact run_ok heq
              · trivial
              · trivial
          · split
            · exact endPrinting_drawn _ _ _ _
            · trivial
    · split
      · exact doReturn_drawn _ _ _ _ _ _ _
      · rename_i fn _
        have h := runT_drawn p (results fn fr.tmps) w #[]
        generalize (results fn fr.tmps).runT p w #[] = re at *
        obtain ⟨r, es⟩ := re
        dsimp only at h ⊢
        refine gD.after _ ?_
        split
        · exact (doReturn_drawn _ _ _ _ _ _ _).le h
        · trivial
        · trivial
theorem early_drawn (p : Program) (fr : Frame) (callers : List Frame) (dying : Option Dying) (g : Nat) (w : World) : gD w.drawn (early p fr callers dying g w) := by
  unfold early
  dsimp only
  repeat' (first | exact Nat.le_refl _ | trivial | split | dsimp only)
  all_goals first
    | (rename_i h; have h2 := run_ok h; exact h2)
    | (rename_i h _; have h2 := run_ok h; exact h2)
    | (rename_i h _ _; have h2 := run_ok h; exact h2)
    | (rename_i h _ _ _; have h2 := run_ok h; exact h2)
    | (rename_i h _ _ _ _; have h2 := run_ok h; exact h2)
theorem apply_drawn (p : Program) (listen : Bool) (fr : Frame) (callers : List Frame) (dying : Option Dying) (s : Sem Next) (w : World) : gD w.drawn (stepG.apply p listen fr callers dying s w) := by
  unfold stepG.apply
  have h : resD w.drawn ((if listen = true then s.runT p w #[] else (s.run p w, #[])) : Result Next × Array Event).1 := by
    split
    · exact runT_drawn p s w #[]
    · exact run_drawn p s w
  generalize ((if listen = true then s.runT p w #[] else (s.run p w, #[])) : Result Next × Array Event) = re at *
  obtain ⟨r, es⟩ := re
  dsimp only at h ⊢
  refine gD.after _ ?_
  repeat' (first | exact h | trivial | exact (endFatal_drawn _ _ _ _ _ _).le h | exact (endThrow_drawn _ _ _).le h | exact (early_drawn _ _ _ _ _ _).le h | split)
theorem oper_drawn (p : Program) (listen : Bool) (fr : Frame) (callers : List Frame) (dying : Option Dying) (w : World) : gD w.drawn (stepG.oper p listen fr callers dying w) := by
  unfold stepG.oper
  split
  · trivial
  · split
    · exact apply_drawn _ _ _ _ _ _ _
    · exact apply_drawn _ _ _ _ _ _ _
theorem run_halt {α : Type} {p : Program} {s : Sem α} {w w' : World} {a : Halt} (h : s.run p w = .halt a w') : w.drawn ≤ w'.drawn := by
  have := run_drawn p s w
  rw [h] at this
  exact this
theorem runT_ok1 {α : Type} {p : Program} {s : Sem α} {w w' : World} {a : α} {es : Array Event} (h : (s.runT p w es).1 = .ok a w') : w.drawn ≤ w'.drawn := by
  have := runT_drawn p s w es
  rw [h] at this
  exact this
theorem runT_halt1 {α : Type} {p : Program} {s : Sem α} {w w' : World} {a : Halt} {es : Array Event} (h : (s.runT p w es).1 = .halt a w') : w.drawn ≤ w'.drawn := by
  have := runT_drawn p s w es
  rw [h] at this
  exact this
theorem gD.elim {α : Type} {d : Nat} {o : Option α} {a : GStep} {f : α → GStep} (ha : gD d a) (hf : ∀ x, gD d (f x)) : gD d (o.elim a f) := by
  cases o
  · exact ha
  · exact hf _
theorem exec_drawn (p : Program) (main listen : Bool) (fr : Frame) (callers : List Frame) (dying : Option Dying) (w : World) : gD w.drawn (stepG.exec p main listen fr callers dying w) := by
  unfold stepG.exec
  dsimp only
  repeat' (first
    | exact Nat.le_refl _
    | trivial
    | exact apply_drawn _ _ _ _ _ _ _
    | exact oper_drawn _ _ _ _ _ _
    | split)
  all_goals first
    | (refine gD.after _ ?_; first
        | trivial
        | (rename_i h; have h2 := runT_ok1 h; first | exact h2 | exact (doReturn_drawn _ _ _ _ _ _ _).le h2 | exact (apply_drawn _ _ _ _ _ _ _).le h2)
        | (rename_i h; have h2 := runT_halt1 h; exact h2))
    | (refine gD.elim ?_ (fun _ => by first | exact Nat.le_refl _ | exact apply_drawn _ _ _ _ _ _ _); first
        | trivial
        | (refine gD.after _ ?_; first
            | trivial
            | (rename_i h; have h2 := runT_ok1 h; first | exact h2 | exact (doReturn_drawn _ _ _ _ _ _ _).le h2)))
    | (rename_i h; have h2 := run_ok h; exact h2)
theorem stepG_drawn (p : Program) (main : Bool) (g : Goroutine) (w : World) (listen : Bool) : gD w.drawn (stepG p main g w listen) := by
  unfold stepG
  dsimp only
  split
  · exact die_drawn _ _ _ _
  · exact exec_drawn _ _ _ _ _ _ _
  · exact unwind_drawn _ _ _ _ _ _
/-! ### the machine's step -/
def mD (d : Nat) : Stepped → Prop
  | .next m => d ≤ m.world.drawn
  | _ => True
theorem look_drawn (p : Program) (gs : Array Goroutine) (rest : Rest) (w : World) : mD w.drawn (look p gs rest w) := by
  unfold look
  dsimp only
  repeat' (first
    | exact Nat.le_refl _
    | trivial
    | (rename_i h; have h2 := run_ok h; exact h2)
    | split)
theorem communicate_drawn (p : Program) (rest : Rest) (gs : Array Goroutine) (i : Nat) (g : Goroutine) (cases_ : Array CommCase) (blocking : Bool) (shape : CommShape) (w : World) : mD w.drawn (communicate p rest gs i g cases_ blocking shape w).1 := by
  unfold communicate
  dsimp only
  split
  · trivial
  · split
    · split
      · split
        · rename_i h
          unfold waitingAt at h
          split at h
          · split at h
            · cases h; exact Nat.le_refl _
            · cases h
          · cases h; exact Nat.le_refl _
        · trivial
      · exact Nat.le_refl _
    · split
      · trivial
      · rename_i heq
        have h1 := run_ok heq
        clear heq
        repeat' (first
          | exact h1
          | trivial
          | (rename_i h; have h2 := run_halt h; exact Nat.le_trans h1 h2)
          | (rename_i h; have h2 := run_ok h; exact Nat.le_trans h1 h2)
          | split)
end Go.Proofs.YtpifkinlaicliaaGreatDoor
/-
  DRAWS ONLY GROW, over no program: the machine's step; a call.
-/

namespace Go.Proofs.YtpifkinlaicliaaGreatDoor
open Go

theorem serve_drawn (p : Program) (m : Machine) (k : Nat) : mD m.world.drawn (serve p m k) := by
  unfold serve
  repeat' (first | exact Nat.le_refl _ | trivial | split | dsimp only)
theorem drain_drawn (w : World) (c : Nat) : (drain w c).2.drawn = w.drawn := by
  unfold drain
  split <;> rfl
theorem retime_drawn (m : Machine) (k : Nat) (t : Timer) (a b : Nat) : (retime m k t a b).2.world.drawn = m.world.drawn := by
  unfold retime
  cases t.chan with
  | none => rfl
  | some c => exact drain_drawn _ _
theorem timerOp_drawn {m m' : Machine} {op : TimerOp} {v : Value} (h : timerOp m op = .ok (v, m')) : m'.world.drawn = m.world.drawn := by
  unfold timerOp at h
  split at h
  · split at h
    · cases h; rfl
    · split at h
      · split at h
        · cases h
        · cases h; rfl
      · cases h
  · unfold timerOp.named at h
    split at h
    · have h2 := congrArg (fun r => match r with | Except.ok (x : Value × Machine) => x.2.world.drawn | .error _ => m.world.drawn) h
      simp only at h2
      rw [← h2]
      exact (retime_drawn _ _ _ _ _)
    · cases h
  · split at h
    · rename_i m1 hm
      have hd : m1.world.drawn = m.world.drawn := by
        unfold timerOp.opened at hm
        split at hm
        · split at hm
          · cases hm; rfl
          · cases hm
        · cases hm; rfl
      unfold timerOp.named at h
      split at h
      · have h2 := congrArg (fun r => match r with | Except.ok (x : Value × Machine) => x.2.world.drawn | .error _ => m.world.drawn) h
        simp only at h2
        rw [← h2]
        exact (retime_drawn _ _ _ _ _).trans hd
      · cases h
    · cases h
  · cases h; rfl
theorem mrun_drawn (p : Program) (m : Machine) (i : Nat) (listen : Bool) : mD m.world.drawn (Go.runT p m i listen).1 := by
  unfold Go.runT
  generalize m.gs.swapAt! i _ = sg
  obtain ⟨g, gs⟩ := sg
  dsimp only
  have h := stepG_drawn p (i == 0) g m.world listen
  generalize stepG p (i == 0) g m.world listen = s at *
  cases s with
  | ended o w es => trivial
  | comm g cs bl sh w es =>
    have h2 := communicate_drawn p m.rest gs i g cs bl sh w
    revert h2
    dsimp only
    generalize (communicate p m.rest gs i g cs bl sh w) = r
    obtain ⟨r, more⟩ := r
    intro h2
    cases r with
    | next m' => exact Nat.le_trans h h2
    | ended o w => trivial
  | go g w es => exact h
  | spawn g c w es => exact h
  | count g w es =>
    dsimp only
    split
    · trivial
    · exact h
  | alone g on w es => exact h
  | collect g w es =>
    have h2 := look_drawn p (gs.setIfInBounds i g) m.rest w
    revert h2
    dsimp only
    generalize look p (gs.setIfInBounds i g) m.rest w = r
    intro h2
    cases r with
    | next m' => exact Nat.le_trans h h2
    | ended o w => trivial
  | watch g w es => exact h
  | newcoro g c d w es => exact h
  | coroswitch g c ex w es =>
    dsimp only
    split
    · exact h
    · exact h
    · trivial
  | timer g op w es =>
    dsimp only
    split
    · rename_i heq
      have := timerOp_drawn heq
      exact Nat.le_trans h (Nat.le_of_eq this.symm)
    · exact h
    · trivial
    · trivial
def vD (d : Nat) : Move → Prop
  | .goroutine m _ => d ≤ m.world.drawn
  | .machine s _ => mD d s
theorem mD.le {d e : Nat} {s : Stepped} (h : mD e s) (hd : d ≤ e) : mD d s := by
  cases s <;> first | exact Nat.le_trans hd h | trivial
theorem vD.le {d e : Nat} {s : Move} (h : vD e s) (hd : d ≤ e) : vD d s := by
  cases s
  · exact Nat.le_trans hd h
  · exact mD.le h hd
theorem askOn_drawn (p : Program) (m : Machine) : vD m.world.drawn (askOn p m) := by
  unfold askOn
  dsimp only
  split
  · trivial
  · rename_i heq
    have h1 := run_ok heq
    clear heq
    split
    · exact (serve_drawn _ _ _).le h1
    · repeat' (first
        | exact h1
        | trivial
        | (rename_i h; have h1 := Nat.le_trans h1 (run_ok h); clear h)
        | (rename_i h; have h2 := run_ok h; change World.drawn _ ≤ _ at h2; have h1 := Nat.le_trans (show _ ≤ World.drawn _ from h1) h2; clear h h2)
        | split)
theorem ask_move_drawn (p : Program) (m : Machine) : vD m.world.drawn (Go.ask p m) := by
  unfold Go.ask
  split
  · split
    · trivial
    · rename_i world heq
      have h1 := run_ok heq
      have h2 := look_drawn p m.gs m.rest world
      split
      · rename_i h
        rw [h] at h2
        exact (askOn_drawn _ _).le (Nat.le_trans h1 h2)
      · rename_i h
        exact mD.le h2 h1
    · rename_i heq
      exact (askOn_drawn _ _).le (run_ok heq)
  · exact askOn_drawn _ _
theorem move_drawn (p : Program) (m : Machine) : vD m.world.drawn (Go.move p m) := by
  unfold Go.move
  split
  · split
    · exact Nat.le_refl _
    · trivial
  · split
    · split
      · exact Nat.le_refl _
      · exact ask_move_drawn p _
    · exact ask_move_drawn p _
theorem step_drawn {p : Program} {m m' : Machine} (h : step p m = .next m') : m.world.drawn ≤ m'.world.drawn := by
  have hv := move_drawn p m
  unfold step stepT at h
  generalize Go.move p m = mv at *
  cases mv with
  | goroutine m1 i =>
    have h2 := mrun_drawn p m1 i true
    dsimp only at h
    rw [h] at h2
    exact Nat.le_trans hv h2
  | machine s ops =>
    dsimp only at h
    rw [h] at hv
    exact hv
theorem runN_drawn {p : Program} : ∀ {n : Nat} {m m' : Machine}, runN p n m = .next m' → m.world.drawn ≤ m'.world.drawn
  | 0, m, m', h => by
    have h : (.next m : Stepped) = .next m' := h
    cases h
    exact Nat.le_refl _
  | n + 1, m, m', h => by
    unfold runN at h
    split at h
    · rename_i m1 h1
      exact Nat.le_trans (step_drawn h1) (runN_drawn h)
    · rename_i h1
      exact absurd h (h1 _)
theorem steps_drawn {p : Program} {m m' : Machine} (h : Steps p m m') : m.world.drawn ≤ m'.world.drawn := by
  obtain ⟨n, hn⟩ := h
  exact runN_drawn hn
/-- A CALL THAT RETURNS HAS NOT LOWERED THE DRAWS -/
theorem Calls.drawn {P : Program} {f : FuncId} {args : Array Value} {w : World} {v : Value} {R : World → Prop} (h : Calls P f args w fun e w' => e = .returned v ∧ R w') : Calls P f args w fun e w' => e = .returned v ∧ R w' ∧ w.drawn ≤ w'.drawn := by
  intro cs
  obtain ⟨e, w', fr, ⟨he, hR⟩, hc, h1, h2⟩ := h cs
  refine ⟨e, w', fr, ⟨he, hR, ?_⟩, hc, h1, h2⟩
  subst he
  exact steps_drawn hc
end Go.Proofs.YtpifkinlaicliaaGreatDoor
/-
  A CALL THAT ONLY ADDS, as the library's sorts want it said.
-/


namespace Go.Proofs.YtpifkinlaicliaaGreatDoor
open Go Go.RowKit Go.Sort

theorem heap_grows {h H : Array Obj} (hs : h.size ≤ H.size) (hb : ∀ k, k < h.size → H[k]? = h[k]?) : H = h ++ H.extract h.size H.size := by
  apply Array.ext_getElem?
  intro k
  rcases Nat.lt_or_ge k h.size with c | c
  · rw [hb k c, Array.getElem?_append_left c]
  · rw [Array.getElem?_append_right c, Array.getElem?_extract]
    split
    · congr 1; omega
    · rw [Array.getElem?_eq_none_iff]; omega
theorem Old.grows {w W : World} (o : Old w W) (hd : w.drawn ≤ W.drawn) : ∃ q os, W = grow (w.drewN q) os := by
  refine ⟨W.drawn - w.drawn, W.heap.extract w.heap.size W.heap.size, ?_⟩
  have h1 := heap_grows o.size o.block
  have h2 := o.os
  have h3 := o.tape
  have h4 := o.output
  cases W
  cases w
  simp only [grow, World.drewN] at *
  subst h2; subst h3; subst h4
  congr 1
  omega
end Go.Proofs.YtpifkinlaicliaaGreatDoor
