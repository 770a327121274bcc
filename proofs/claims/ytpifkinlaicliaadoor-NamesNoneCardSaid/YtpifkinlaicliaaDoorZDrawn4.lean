/-
  DRAWS ONLY GROW, over no program: the machine's step; a call.
-/
import Derived.Test.YtpifkinlaicliaaDoorZDrawn2
import Derived.Sort.Grow
namespace Go.Proofs.YtpifkinlaicliaaDoor
open Go

theorem serve_drawn (p : Program) (m : Machine) (k : Nat) : mD m.world.drawn (serve p m k) := by
  unfold serve
  repeat' (first | exact Nat.le_refl _ | trivial | split | dsimp only)
theorem drain_drawn (w : World) (c : Nat) : (drain w c).2.drawn = w.drawn := by
  unfold drain
  split <;> rfl
theorem retime_drawn (m : Machine) (k : Nat) (t : Timer) (a b : Nat) : (retime m k t a b).2.world.drawn = m.world.drawn := by
  unfold retime
  cases t.chan with
  | none => rfl
  | some c => exact drain_drawn _ _
theorem timerOp_drawn {m m' : Machine} {op : TimerOp} {v : Value} (h : timerOp m op = .ok (v, m')) : m'.world.drawn = m.world.drawn := by
  unfold timerOp at h
  split at h
  · split at h
    · cases h; rfl
    · split at h
      · split at h
        · cases h
        · cases h; rfl
      · cases h
  · unfold timerOp.named at h
    split at h
    · have h2 := congrArg (fun r => match r with | Except.ok (x : Value × Machine) => x.2.world.drawn | .error _ => m.world.drawn) h
      simp only at h2
      rw [← h2]
      exact (retime_drawn _ _ _ _ _)
    · cases h
  · split at h
    · rename_i m1 hm
      have hd : m1.world.drawn = m.world.drawn := by
        unfold timerOp.opened at hm
        split at hm
        · split at hm
          · cases hm; rfl
          · cases hm
        · cases hm; rfl
      unfold timerOp.named at h
      split at h
      · have h2 := congrArg (fun r => match r with | Except.ok (x : Value × Machine) => x.2.world.drawn | .error _ => m.world.drawn) h
        simp only at h2
        rw [← h2]
        exact (retime_drawn _ _ _ _ _).trans hd
      · cases h
    · cases h
  · cases h; rfl
theorem mrun_drawn (p : Program) (m : Machine) (i : Nat) (listen : Bool) : mD m.world.drawn (Go.runT p m i listen).1 := by
  unfold Go.runT
  generalize m.gs.swapAt! i _ = sg
  obtain ⟨g, gs⟩ := sg
  dsimp only
  have h := stepG_drawn p (i == 0) g m.world listen
  generalize stepG p (i == 0) g m.world listen = s at *
  cases s with
  | ended o w es => trivial
  | comm g cs bl sh w es =>
    have h2 := communicate_drawn p m.rest gs i g cs bl sh w
    revert h2
    dsimp only
    generalize (communicate p m.rest gs i g cs bl sh w) = r
    obtain ⟨r, more⟩ := r
    intro h2
    cases r with
    | next m' => exact Nat.le_trans h h2
    | ended o w => trivial
  | go g w es => exact h
  | spawn g c w es => exact h
  | count g w es =>
    dsimp only
    split
    · trivial
    · exact h
  | alone g on w es => exact h
  | collect g w es =>
    have h2 := look_drawn p (gs.setIfInBounds i g) m.rest w
    revert h2
    dsimp only
    generalize look p (gs.setIfInBounds i g) m.rest w = r
    intro h2
    cases r with
    | next m' => exact Nat.le_trans h h2
    | ended o w => trivial
  | watch g w es => exact h
  | newcoro g c d w es => exact h
  | coroswitch g c ex w es =>
    dsimp only
    split
    · exact h
    · exact h
    · trivial
  | timer g op w es =>
    dsimp only
    split
    · rename_i heq
      have := timerOp_drawn heq
      exact Nat.le_trans h (Nat.le_of_eq this.symm)
    · exact h
    · trivial
    · trivial
def vD (d : Nat) : Move → Prop
  | .goroutine m _ => d ≤ m.world.drawn
  | .machine s _ => mD d s
theorem mD.le {d e : Nat} {s : Stepped} (h : mD e s) (hd : d ≤ e) : mD d s := by
  cases s <;> first | exact Nat.le_trans hd h | trivial
theorem vD.le {d e : Nat} {s : Move} (h : vD e s) (hd : d ≤ e) : vD d s := by
  cases s
  · exact Nat.le_trans hd h
  · exact mD.le h hd
theorem askOn_drawn (p : Program) (m : Machine) : vD m.world.drawn (askOn p m) := by
  unfold askOn
  dsimp only
  split
  · trivial
  · rename_i heq
    have h1 := run_ok heq
    clear heq
    split
    · exact (serve_drawn _ _ _).le h1
    · repeat' (first
        | exact h1
        | trivial
        | (rename_i h; have h1 := Nat.le_trans h1 (run_ok h); clear h)
        | (rename_i h; have h2 := run_ok h; change World.drawn _ ≤ _ at h2; have h1 := Nat.le_trans (show _ ≤ World.drawn _ from h1) h2; clear h h2)
        | split)
theorem ask_move_drawn (p : Program) (m : Machine) : vD m.world.drawn (Go.ask p m) := by
  unfold Go.ask
  split
  · split
    · trivial
    · rename_i world heq
      have h1 := run_ok heq
      have h2 := look_drawn p m.gs m.rest world
      split
      · rename_i h
        rw [h] at h2
        exact (askOn_drawn _ _).le (Nat.le_trans h1 h2)
      · rename_i h
        exact mD.le h2 h1
    · rename_i heq
      exact (askOn_drawn _ _).le (run_ok heq)
  · exact askOn_drawn _ _
theorem move_drawn (p : Program) (m : Machine) : vD m.world.drawn (Go.move p m) := by
  unfold Go.move
  split
  · split
    · exact Nat.le_refl _
    · trivial
  · split
    · split
      · exact Nat.le_refl _
      · exact ask_move_drawn p _
    · exact ask_move_drawn p _
theorem step_drawn {p : Program} {m m' : Machine} (h : step p m = .next m') : m.world.drawn ≤ m'.world.drawn := by
  have hv := move_drawn p m
  unfold step stepT at h
  generalize Go.move p m = mv at *
  cases mv with
  | goroutine m1 i =>
    have h2 := mrun_drawn p m1 i true
    dsimp only at h
    rw [h] at h2
    exact Nat.le_trans hv h2
  | machine s ops =>
    dsimp only at h
    rw [h] at hv
    exact hv
theorem runN_drawn {p : Program} : ∀ {n : Nat} {m m' : Machine}, runN p n m = .next m' → m.world.drawn ≤ m'.world.drawn
  | 0, m, m', h => by
    have h : (.next m : Stepped) = .next m' := h
    cases h
    exact Nat.le_refl _
  | n + 1, m, m', h => by
    unfold runN at h
    split at h
    · rename_i m1 h1
      exact Nat.le_trans (step_drawn h1) (runN_drawn h)
    · rename_i h1
      exact absurd h (h1 _)
theorem steps_drawn {p : Program} {m m' : Machine} (h : Steps p m m') : m.world.drawn ≤ m'.world.drawn := by
  obtain ⟨n, hn⟩ := h
  exact runN_drawn hn
/-- A CALL THAT RETURNS HAS NOT LOWERED THE DRAWS -/
theorem Calls.drawn {P : Program} {f : FuncId} {args : Array Value} {w : World} {v : Value} {R : World → Prop} (h : Calls P f args w fun e w' => e = .returned v ∧ R w') : Calls P f args w fun e w' => e = .returned v ∧ R w' ∧ w.drawn ≤ w'.drawn := by
  intro cs
  obtain ⟨e, w', fr, ⟨he, hR⟩, hc, h1, h2⟩ := h cs
  refine ⟨e, w', fr, ⟨he, hR, ?_⟩, hc, h1, h2⟩
  subst he
  exact steps_drawn hc
end Go.Proofs.YtpifkinlaicliaaDoor
/-
  A CALL THAT ONLY ADDS, as the library's sorts want it said.
-/


namespace Go.Proofs.YtpifkinlaicliaaDoor
open Go Go.RowKit Go.Sort

theorem heap_grows {h H : Array Obj} (hs : h.size ≤ H.size) (hb : ∀ k, k < h.size → H[k]? = h[k]?) : H = h ++ H.extract h.size H.size := by
  apply Array.ext_getElem?
  intro k
  rcases Nat.lt_or_ge k h.size with c | c
  · rw [hb k c, Array.getElem?_append_left c]
  · rw [Array.getElem?_append_right c, Array.getElem?_extract]
    split
    · congr 1; omega
    · rw [Array.getElem?_eq_none_iff]; omega
theorem Old.grows {w W : World} (o : Old w W) (hd : w.drawn ≤ W.drawn) : ∃ q os, W = grow (w.drewN q) os := by
  refine ⟨W.drawn - w.drawn, W.heap.extract w.heap.size W.heap.size, ?_⟩
  have h1 := heap_grows o.size o.block
  have h2 := o.os
  have h3 := o.tape
  have h4 := o.output
  cases W
  cases w
  simp only [grow, World.drewN] at *
  subst h2; subst h3; subst h4
  congr 1
  omega
end Go.Proofs.YtpifkinlaicliaaDoor
