/-
  OCTET, WALKS F: the cursor is written: Fail, Uint, End.
-/
import Derived.Test.YtaclkoipobgmkaaDoorOctWalksE
namespace Go.Proofs.YtaclkoipobgmkaaDoor
open Go.RowKit
attribute [local go_sem] Old.refl Old.alloc Old.drew Old.setCell OldW.old

theorem Nums.but {k : IntKind} {w W : World} {a : Option Addr} {n cap c : Nat} {l : List Int} (h : Nums k w (.slice a n cap) l) (o : OldBut c w W) (hne : ∀ x, a = some x → x.block ≠ c) : Nums k W (.slice a n cap) l := by
  obtain ⟨a', cap', b, off, e, h1, h2, ha, ht⟩ := h
  obtain ⟨rfl, rfl, rfl⟩ := Value.slice.inj e
  refine ⟨_, _, b, off, rfl, h1, h2, ha, fun i hi => later (o.cell (ht i hi w (Old.refl w)) ?_)⟩
  exact hne ⟨b, off, none⟩ (ha (by omega))
theorem Cur.setAt {w : World} {c : Nat} {l : List Int} {p q : Nat} {e : Int} (h : Cur w c l p e) (hq : q ≤ l.length) : Cur (w.setCell ⟨c, 1, none⟩ (.int .i64 q)) c l q e := by
  obtain ⟨a, cap, h0, hr, hne⟩ := h.row
  have h1 := h.at1
  have h2 := h.er2
  exact ⟨by simp [go_sem, h1], by simp [go_sem, h2], fun j => by rw [← h.fz j]; simp [go_sem], ⟨a, cap, by simp [go_sem, h0], hr.but ((OldBut.refl c w).setCell 1 _) hne, hne⟩, hq⟩
theorem Cur.setEr {w : World} {c : Nat} {l : List Int} {p : Nat} {e e' : Int} (h : Cur w c l p e) : Cur (w.setCell ⟨c, 2, none⟩ (.int .i64 e')) c l p e' := by
  obtain ⟨a, cap, h0, hr, hne⟩ := h.row
  have h1 := h.at1
  have h2 := h.er2
  exact ⟨by simp [go_sem, h1], by simp [go_sem, h2], fun j => by rw [← h.fz j]; simp [go_sem], ⟨a, cap, by simp [go_sem, h0], hr.but ((OldBut.refl c w).setCell 2 _) hne, hne⟩, h.le⟩
/-- the error behind a failure e, e0 ahead -/
def failE (e0 e : Int) : Int := if e0 = 0 then e else e0
theorem failE_zero (e : Int) : failE 0 e = e := by simp [failE]
theorem failE_more {e0 : Int} (h : ¬ e0 = 0) (e : Int) : failE e0 e = e0 := by simp [failE, h]
theorem Fail_any {w : World} {c : Nat} {l : List Int} {p : Nat} {e0 e : Int} (h : Cur w c l p e0) :
    Calls Tryd.prog 42 #[.pointer (some ⟨c, 0, none⟩), .int .i64 e] w fun r w' => r = .returned (.tuple #[]) ∧ Cur w' c l p (failE e0 e) ∧ OldBut c w w' := by
  have h2 := h.er2
  have hf := h.fz 2
  have Hc := Lib.hid h
  clear h
  by_cases h0 : e0 = 0
  · subst h0
    go_enter Tryd.func42, Tryd.ntmps42
    go_wp2
    go_end0
    exact ⟨rfl, by rw [failE_zero]; exact Hc.out.setEr, (OldBut.refl c w).setCell 2 _⟩
  · have hb : (e0 == 0) = false := by rw [beq_eq_false_iff_ne]; exact h0
    have Hf := Lib.hid (failE_more h0 e)
    clear h0
    go_enter Tryd.func42, Tryd.ntmps42
    go_wp2
    go_end0
    exact ⟨rfl, by rw [Hf.out]; exact Hc.out, OldBut.refl c w⟩
/-- what End answers -/
def endE (l : List Int) (p : Nat) (e : Int) : Int := if e = 0 then (if p < l.length then 31 else 0) else e
theorem endE_more {l : List Int} {p : Nat} (h : p < l.length) : endE l p 0 = 31 := by unfold endE; rw [if_pos rfl, if_pos h]
theorem endE_done {l : List Int} {p : Nat} (h : ¬ p < l.length) : endE l p 0 = 0 := by unfold endE; rw [if_pos rfl, if_neg h]
theorem endE_bad {l : List Int} {p : Nat} {e : Int} (h : ¬ e = 0) : endE l p e = e := by unfold endE; rw [if_neg h]
theorem End_any {w : World} {c : Nat} {l : List Int} {p : Nat} {e : Int} (h : Cur w c l p e) (hz : l.length ≤ 9223372036854775807) :
    Calls Tryd.prog 35 #[.pointer (some ⟨c, 0, none⟩)] w fun r w' => r = .returned (.int .i64 (endE l p e)) ∧ Old w w' := by
  have Ce := Lib.hid (Err_any h)
  have Cl := Lib.hid (Left_any h hz)
  have hle := h.le
  clear h
  by_cases h0 : e = 0
  · subst h0
    by_cases hp : p < l.length
    · have Hv := Lib.hid (endE_more hp)
      have hd : decide (0 < (l.length : Int) - p) = true := by simp; omega
      go_enter Tryd.func35, Tryd.ntmps35
      go_wp2_with (first | (go_at_call 13; refine Ce.out.mono ?_; rintro r w1 ⟨rfl, rfl⟩) | (go_at_call 36; refine Cl.out.mono ?_; rintro r w1 ⟨rfl, ho⟩))
      all_goals first
        | (exfalso; omega)
        | (go_ret
           exact ⟨ret_i64 Hv.out.symm, ho⟩)
    · have Hv := Lib.hid (endE_done hp)
      have hd : decide (0 < (l.length : Int) - p) = false := by simp; omega
      go_enter Tryd.func35, Tryd.ntmps35
      go_wp2_with (first | (go_at_call 13; refine Ce.out.mono ?_; rintro r w1 ⟨rfl, rfl⟩) | (go_at_call 36; refine Cl.out.mono ?_; rintro r w1 ⟨rfl, ho⟩))
      all_goals first
        | (exfalso; omega)
        | (go_ret
           exact ⟨ret_i64 Hv.out.symm, ho⟩)
  · have hb : (e == 0) = false := by rw [beq_eq_false_iff_ne]; exact h0
    have hb' : (e != 0) = true := by rw [bne_iff_ne]; exact h0
    have Hv := Lib.hid (endE_bad (l := l) (p := p) h0)
    clear h0
    go_enter Tryd.func35, Tryd.ntmps35
    go_wp2_with (first | (go_at_call 13; refine Ce.out.mono ?_; rintro r w1 ⟨rfl, rfl⟩))
    go_ret
    exact ⟨ret_i64 Hv.out.symm, Old.refl _⟩
theorem num_bounds {l : List Int} (hb : Byt l) {p : Nat} (he : (num l p 0 0).2.2 = 0) : (num l p 0 0).1 < 18446744073709551616 ∧ p + (num l p 0 0).2.1 ≤ l.length := by
  obtain ⟨m, e1, _, e3, e4, _, e6⟩ := num_spec hb (p := p) _ 0 0 rfl (by omega) (by decide) he
  simp at e1 e3 e4 e6
  rw [e1, e3]
  exact ⟨by simpa using e6, e4⟩
/-- what Uint answers, where the cursor stands then, its error then -/
def uintC (l : List Int) (p : Nat) (e : Int) : Nat × Nat × Int :=
  if e = 0 then (if (num l p 0 0).2.2 = 0 then ((num l p 0 0).1, p + (num l p 0 0).2.1, 0) else (0, p, (num l p 0 0).2.2)) else (0, p, e)
theorem uintC_bad {l : List Int} {p : Nat} {e : Int} (h : ¬ e = 0) : uintC l p e = (0, p, e) := by unfold uintC; rw [if_neg h]
theorem uintC_fail {l : List Int} {p : Nat} (h : ¬ (num l p 0 0).2.2 = 0) : uintC l p 0 = (0, p, (num l p 0 0).2.2) := by unfold uintC; rw [if_pos rfl, if_neg h]
theorem uintC_ok {l : List Int} {p : Nat} (h : (num l p 0 0).2.2 = 0) : uintC l p 0 = ((num l p 0 0).1, p + (num l p 0 0).2.1, 0) := by unfold uintC; rw [if_pos rfl, if_pos h]
theorem ret_u64 {a b : Int} (h : a = b) : Ending.returned (.int .u64 a) = .returned (.int .u64 b) := by rw [h]
/-- a number answered; the cursor c behind -/
def RetCur (k : IntKind) (c : Nat) (l : List Int) (w : World) (n : Int) (p : Nat) (e : Int) (r : Ending) (w' : World) : Prop := r = .returned (.int k n) ∧ Cur w' c l p e ∧ OldBut c w w'
theorem Cur.fzs {w : World} {c : Nat} {l : List Int} {p : Nat} {e : Int} (h : Cur w c l p e) (j : Nat) : ∀ W, Old w W → W.frozen? ⟨c, j, none⟩ = false := fun _ o => (h.old o).fz j
theorem RetCur.mk {k : IntKind} {c : Nat} {l : List Int} {w w' : World} {n n' : Int} {p p' : Nat} {e e' : Int} (hn : n = n') (hp : p = p') (he : e = e') (hc : Cur w' c l p e) (ho : OldBut c w w') : RetCur k c l w n' p' e' (.returned (.int k n)) w' := by
  subst hn hp he; exact ⟨rfl, hc, ho⟩
theorem OldBut.of_old {c : Nat} {w W : World} (h : Old w W) : OldBut c w W := KeptBut.of_old h (Nat.le_refl _)
set_option maxHeartbeats 400000 in
theorem Uint_any {w : World} {c : Nat} {l : List Int} {p : Nat} {e : Int} (h : Cur w c l p e) (hb : Byt l) (hz : l.length ≤ 140737488355328) :
    Calls Tryd.prog 12 #[.pointer (some ⟨c, 0, none⟩)] w (RetCur .u64 c l w ((uintC l p e).1 : Nat) (uintC l p e).2.1 (uintC l p e).2.2) := by
  have Cf := Lib.hid (fine_any h)
  have Hc := Lib.hid h
  by_cases h0 : e = 0
  · subst h0
    have Cn := Lib.hid (number_any h hb hz)
    by_cases he : (num l p 0 0).2.2 = 0
    · have hbd := num_bounds hb he
      rw [he] at Cn
      have Hu := Lib.hid (uintC_ok he)
      have h1 := later h.at1
      have hf := h.fzs 1
      clear h he
      generalize (num l p 0 0).1 = n at *
      generalize (num l p 0 0).2.1 = g at *
      have hg0 : 0 ≤ (p : Int) + g := by omega
      have hg1 : (p : Int) + g ≤ 140737488355328 := by omega
      go_enter Tryd.func12, Tryd.ntmps12
      go_wp2_with (first | (go_at_call 40; refine Cf.out.mono ?_; rintro r w1 ⟨rfl, rfl⟩) | (go_at_call 41; refine Cn.out.mono ?_; rintro r w2 ⟨rfl, ho⟩))
      go_ret
      exact RetCur.mk (by rw [Hu.out]) (by rw [Hu.out]) (by rw [Hu.out]) ((Hc.out.old ho).setAt hbd.2) ((OldBut.of_old ho).setCell _ _)
    · have Hu := Lib.hid (uintC_fail he)
      have hb1 : ((num l p 0 0).2.2 == 0) = false := by rw [beq_eq_false_iff_ne]; exact he
      have hb2 : ((num l p 0 0).2.2 != 0) = true := by rw [bne_iff_ne]; exact he
      clear h he
      generalize (num l p 0 0).1 = n at *
      generalize (num l p 0 0).2.1 = g at *
      generalize (num l p 0 0).2.2 = e' at *
      go_enter Tryd.func12, Tryd.ntmps12
      go_wp2_with (first | (go_at_call 40; refine Cf.out.mono ?_; rintro r w1 ⟨rfl, rfl⟩) | (go_at_call 41; refine Cn.out.mono ?_; rintro r w2 ⟨rfl, ho⟩) | (go_at_call 42; refine (Fail_any (Hc.out.old ho)).mono ?_; rintro r w3 ⟨rfl, hc3, ho3⟩))
      go_ret
      rw [failE_zero] at hc3
      exact RetCur.mk (by rw [Hu.out]; rfl) (by rw [Hu.out]) (by rw [Hu.out]) hc3 ((OldBut.of_old ho).trans ho3)
  · have hb : (e == 0) = false := by rw [beq_eq_false_iff_ne]; exact h0
    have Hu := Lib.hid (uintC_bad (l := l) (p := p) h0)
    clear h0 h
    go_enter Tryd.func12, Tryd.ntmps12
    go_wp2_with (go_at_call 40; refine Cf.out.mono ?_; rintro r w1 ⟨rfl, rfl⟩)
    go_ret
    exact RetCur.mk (by rw [Hu.out]; rfl) (by rw [Hu.out]) (by rw [Hu.out]) Hc.out (OldBut.refl c w)
end Go.Proofs.YtaclkoipobgmkaaDoor
