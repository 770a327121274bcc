/-
  OCTET, THE DOCUMENT's CURSOR, C: numbers, an index, bytes.
-/
import Derived.Test.YtaclkoipobgmkaaDoorOctRefB
namespace Go.Proofs.YtaclkoipobgmkaaDoor
open Go.RowKit
attribute [local go_sem] Old.refl Old.alloc Old.drew Old.setCell OldW.old

variable {l : List Int} {p c : Nat} {e : Int} {w : World}
set_option maxHeartbeats 400000 in
theorem RUint_any (h : Cur w c l p e) (hb : Byt l) (hz : l.length ≤ 140737488355328) :
    Calls Tryd.prog 49 #[.pointer (some ⟨c, 0, none⟩)] w (RetCur .u64 c l w ((uintC l p e).1 : Nat) (uintC l p e).2.1 (uintC l p e).2.2) := by
  have Hc := Lib.hid h
  have he2 := later h.er2
  by_cases h0 : e = 0
  · subst h0
    have Cn := Lib.hid (read_any h hb hz)
    by_cases he : (num l p 0 0).2.2 = 0
    · have hbd := num_bounds hb he
      rw [he] at Cn
      have Hu := Lib.hid (uintC_ok he)
      have h1 := later h.at1
      have hf := h.fzs 1
      clear h he
      generalize (num l p 0 0).1 = n at *
      generalize (num l p 0 0).2.1 = g at *
      have hg0 : 0 ≤ (p : Int) + g := by omega
      have hg1 : (p : Int) + g ≤ 140737488355328 := by omega
      go_enter Tryd.func49, Tryd.ntmps49
      go_wp2_with (go_at_call 61; refine Cn.out.mono ?_; rintro r w2 ⟨rfl, ho⟩)
      go_ret
      exact RetCur.mk (by rw [Hu.out]) (by rw [Hu.out]) (by rw [Hu.out]) ((Hc.out.old ho).setAt hbd.2) ((OldBut.of_old ho).setCell _ _)
    · have Hu := Lib.hid (uintC_fail he)
      have hb2 : ((num l p 0 0).2.2 != 0) = true := by rw [bne_iff_ne]; exact he
      clear h he
      generalize (num l p 0 0).1 = n at *
      generalize (num l p 0 0).2.1 = g at *
      generalize (num l p 0 0).2.2 = e' at *
      go_enter Tryd.func49, Tryd.ntmps49
      go_wp2_with (first | (go_at_call 61; refine Cn.out.mono ?_; rintro r w2 ⟨rfl, ho⟩) | (go_at_call 56; refine (Stop_any (Hc.out.old ho)).mono ?_; rintro r w3 ⟨rfl, hc3, ho3⟩))
      go_ret
      rw [failE_zero] at hc3
      exact RetCur.mk (by rw [Hu.out]; rfl) (by rw [Hu.out]) (by rw [Hu.out]) hc3 ((OldBut.of_old ho).trans ho3)
  · have hb : (e != 0) = true := by rw [bne_iff_ne]; exact h0
    have Hu := Lib.hid (uintC_bad (l := l) (p := p) h0)
    clear h0 h
    go_enter Tryd.func49, Tryd.ntmps49
    go_wp2_with fail
    go_ret
    exact RetCur.mk (by rw [Hu.out]; rfl) (by rw [Hu.out]) (by rw [Hu.out]) Hc.out (OldBut.refl c w)
set_option maxHeartbeats 400000 in
theorem RInt_any (h : Cur w c l p e) (hb : Byt l) (hz : l.length ≤ 140737488355328) :
    Calls Tryd.prog 50 #[.pointer (some ⟨c, 0, none⟩)] w (RetCur .i64 c l w (zag (uintC l p e).1) (uintC l p e).2.1 (uintC l p e).2.2) := by
  have Ct := Lib.hid (RUint_any h hb hz)
  have hlt := uintC_lt hb p e
  clear h
  generalize (uintC l p e).1 = n at *
  generalize (uintC l p e).2.1 = p' at *
  generalize (uintC l p e).2.2 = e' at *
  by_cases hn : n % 2 = 1
  · have Hz := Lib.hid (zag_odd hn)
    have hb1 : ((n : Int) % 2 == 0) = false := by rw [beq_eq_false_iff_ne]; omega
    clear hn
    go_enter Tryd.func50, Tryd.ntmps50
    go_wp2_with (go_at_call 49; refine Ct.out.mono ?_; rintro r w1 ⟨rfl, hc, ho⟩)
    go_ret
    exact RetCur.mk (by rw [Hz.out]; omega) rfl rfl hc ho
  · have Hz := Lib.hid (zag_even hn)
    have hb1 : ((n : Int) % 2 == 0) = true := by rw [beq_iff_eq]; omega
    clear hn
    go_enter Tryd.func50, Tryd.ntmps50
    go_wp2_with (go_at_call 49; refine Ct.out.mono ?_; rintro r w1 ⟨rfl, hc, ho⟩)
    go_ret
    exact RetCur.mk (by rw [Hz.out]; omega) rfl rfl hc ho
set_option maxHeartbeats 800000 in
theorem RIndex_any (h : Cur w c l p e) (hb : Byt l) (hz : l.length ≤ 140737488355328) (lim : Int) (hl0 : -9223372036854775808 ≤ lim) (hl1 : lim ≤ 9223372036854775807) :
    Calls Tryd.prog 52 #[.pointer (some ⟨c, 0, none⟩), .int .i64 lim] w (RetCur .i64 c l w ((indexC l p e lim).1 : Nat) (indexC l p e lim).2.1 (indexC l p e lim).2.2) := by
  have Ct := Lib.hid (RUint_any h hb hz)
  have hlt := uintC_lt hb p e
  have hle := uintC_le hb h.le e
  have hp := h.le
  have h1a := later h.at1
  by_cases he : (uintC l p e).2.2 = 0
  · have hi := uintC_err he
    by_cases ho : lim < 1 ∨ lim ≤ ((uintC l p e).1 : Int)
    · have Hi := Lib.hid (indexC_out he ho)
      rw [he] at Ct
      generalize (uintC l p e).1 = n at *
      generalize (uintC l p e).2.1 = p' at *
      clear h he hi
      by_cases h1 : lim < 1
      · have hd : decide (lim ≤ 0) = true := by simp; omega
        have h1' : lim ≤ 0 := by omega
        clear ho
        go_enter Tryd.func52, Tryd.ntmps52
        go_wp2_with (first
          | (go_at_call 49; refine Ct.out.mono ?_; rintro r w1 ⟨rfl, hc, ho⟩; have hc1 := hc.at1; have hc2 := hc.er2; have hf1 := hc.fz 1; have Hcc := Lib.hid (hc.setAt hp); clear hc)
          | (go_at_call 56; refine (Stop_any Hcc.out).mono ?_; rintro r w3 ⟨rfl, hc3, ho3⟩))
        all_goals first
          | (exfalso; omega)
          | (go_ret
             rw [failE_zero] at hc3
             exact RetCur.mk (by rw [Hi.out]; rfl) (by rw [Hi.out]) (by rw [Hi.out]) hc3 ((ho.setCell 1 _).trans ho3))
      · have hd : decide (lim ≤ 0) = false := by simp; omega
        have h1' : 1 ≤ lim := by omega
        have hlim : lim ≤ n := by omega
        have hw : IntKind.u64.wrap lim = lim := by rw [wrap_u64]; omega
        clear ho
        go_enter Tryd.func52, Tryd.ntmps52
        go_wp2_with (first
          | (go_at_call 49; refine Ct.out.mono ?_; rintro r w1 ⟨rfl, hc, ho⟩; have hc1 := hc.at1; have hc2 := hc.er2; have hf1 := hc.fz 1; have Hcc := Lib.hid (hc.setAt hp); clear hc)
          | (go_at_call 56; refine (Stop_any Hcc.out).mono ?_; rintro r w3 ⟨rfl, hc3, ho3⟩))
        all_goals first
          | (exfalso; omega)
          | (go_ret
             rw [failE_zero] at hc3
             exact RetCur.mk (by rw [Hi.out]; rfl) (by rw [Hi.out]) (by rw [Hi.out]) hc3 ((ho.setCell 1 _).trans ho3))
    · have Hi := Lib.hid (indexC_ok he ho)
      rw [he] at Ct
      generalize (uintC l p e).1 = n at *
      generalize (uintC l p e).2.1 = p' at *
      clear h he hi
      have h1' : 1 ≤ lim := by omega
      have h2 : ¬ lim ≤ n := by omega
      have hd : decide (lim ≤ 0) = false := by simp; omega
      have hw : IntKind.u64.wrap lim = lim := by rw [wrap_u64]; omega
      have hn63 : (n : Int) ≤ 9223372036854775807 := by omega
      clear ho
      go_enter Tryd.func52, Tryd.ntmps52
      go_wp2_with (go_at_call 49; refine Ct.out.mono ?_; rintro r w1 ⟨rfl, hc, ho⟩; have hc2 := hc.er2; have Hcc := Lib.hid hc; clear hc)
      all_goals first
        | (exfalso; omega)
        | (go_ret
           exact RetCur.mk (by rw [Hi.out]) (by rw [Hi.out]) (by rw [Hi.out]) Hcc.out ho)
  · have Hi := Lib.hid (indexC_bad (lim := lim) he)
    have hb1 : ((uintC l p e).2.2 != 0) = true := by rw [bne_iff_ne]; exact he
    generalize (uintC l p e).1 = n at *
    generalize (uintC l p e).2 = q at *
    clear h he
    go_enter Tryd.func52, Tryd.ntmps52
    go_wp2_with (go_at_call 49; refine Ct.out.mono ?_; rintro r w1 ⟨rfl, hc, ho⟩; have hc2 := hc.er2; have Hcc := Lib.hid hc; clear hc)
    go_ret
    exact RetCur.mk (by rw [Hi.out]; rfl) (by rw [Hi.out]) (by rw [Hi.out]) Hcc.out ho
set_option maxHeartbeats 800000 in
theorem RBytes_any (h : Cur w c l p e) (hb : Byt l) (hz : l.length ≤ 140737488355328) (lim : Int) (hl0 : -9223372036854775808 ≤ lim) (hl1 : lim ≤ 9223372036854775807) :
    Calls Tryd.prog 54 #[.pointer (some ⟨c, 0, none⟩), .int .i64 lim] w (RetTake c l w (bytesC l p e lim).1 (bytesC l p e lim).2.1 (bytesC l p e lim).2.2) := by
  have Ct := Lib.hid (RUint_any h hb hz)
  have hlt := uintC_lt hb p e
  have hle := uintC_le hb h.le e
  have hp := h.le
  have h1a := later h.at1
  by_cases he : (uintC l p e).2.2 = 0
  · by_cases ho : lim < 0 ∨ lim < ((uintC l p e).1 : Int)
    · have Hi := Lib.hid (bytesC_long he ho)
      rw [he] at Ct
      generalize (uintC l p e).1 = n at *
      generalize (uintC l p e).2.1 = p' at *
      clear h he
      have hsp : lim < 0 ∨ (0 ≤ lim ∧ lim < n) := by omega
      clear ho
      rcases hsp with h1 | ⟨h1, hlim⟩
      · have hd : decide (lim < 0) = true := by simpa using h1
        go_enter Tryd.func54, Tryd.ntmps54
        go_wp2_with (first
          | (go_at_call 49; refine Ct.out.mono ?_; rintro r w1 ⟨rfl, hc, ho⟩; have hc1 := hc.at1; have hc2 := hc.er2; have hf1 := hc.fz 1; have Hcc := Lib.hid (hc.setAt hp); clear hc)
          | (go_at_call 56; refine (Stop_any Hcc.out).mono ?_; rintro r w3 ⟨rfl, hc3, ho3⟩))
        all_goals first
          | (exfalso; omega)
          | (go_ret
             rw [failE_zero] at hc3
             exact RetTake.mk (by rw [Hi.out]) (by rw [Hi.out]) (by rw [Hi.out]) (OwnN.nil _ _ _) hc3 ((ho.setCell 1 _).trans ho3))
      · have hd : decide (lim < 0) = false := by simpa using h1
        have hw : IntKind.u64.wrap lim = lim := by rw [wrap_u64]; omega
        go_enter Tryd.func54, Tryd.ntmps54
        go_wp2_with (first
          | (go_at_call 49; refine Ct.out.mono ?_; rintro r w1 ⟨rfl, hc, ho⟩; have hc1 := hc.at1; have hc2 := hc.er2; have hf1 := hc.fz 1; have Hcc := Lib.hid (hc.setAt hp); clear hc)
          | (go_at_call 56; refine (Stop_any Hcc.out).mono ?_; rintro r w3 ⟨rfl, hc3, ho3⟩))
        all_goals first
          | (exfalso; omega)
          | (go_ret
             rw [failE_zero] at hc3
             exact RetTake.mk (by rw [Hi.out]) (by rw [Hi.out]) (by rw [Hi.out]) (OwnN.nil _ _ _) hc3 ((ho.setCell 1 _).trans ho3))
    · have h1 : 0 ≤ lim := by omega
      have hlim : ¬ lim < ((uintC l p e).1 : Int) := by omega
      have hw : IntKind.u64.wrap lim = lim := by rw [wrap_u64]; omega
      have hd : decide (lim < 0) = false := by simp; omega
      by_cases hto : l.length < (uintC l p e).2.1 + (uintC l p e).1
      · have Hi := Lib.hid (bytesC_torn he ho hto)
        rw [he] at Ct
        generalize (uintC l p e).1 = n at *
        generalize (uintC l p e).2.1 = p' at *
        clear h he ho
        have hw2 : IntKind.u64.wrap ((l.length : Int) - p') = (l.length : Int) - p' := by rw [wrap_u64]; omega
        have hd2 : decide ((l.length : Int) - p' < n) = true := by simp; omega
        go_enter Tryd.func54, Tryd.ntmps54
        go_wp2_with (first
          | (go_at_call 49; refine Ct.out.mono ?_; rintro r w1 ⟨rfl, hc, ho⟩; have hc2 := later hc.er2; have Hcc := Lib.hid hc; clear hc)
          | (go_at_call 62; refine (RLeft_any Hcc.out (by omega)).mono ?_; rintro r w2 ⟨rfl, ho2⟩; have hc1 := (Hcc.out.old ho2).at1; have hf1 := (Hcc.out.old ho2).fz 1; have Hcd := Lib.hid ((Hcc.out.old ho2).setAt hp))
          | (go_at_call 56; refine (Stop_any Hcd.out).mono ?_; rintro r w3 ⟨rfl, hc3, ho3⟩))
        all_goals first
          | (exfalso; omega)
          | (go_ret
             rw [failE_zero] at hc3
             exact RetTake.mk (by rw [Hi.out]) (by rw [Hi.out]) (by rw [Hi.out]) (OwnN.nil _ _ _) hc3 (((ho.old ho2).setCell 1 _).trans ho3))
      · have Hi := Lib.hid (bytesC_ok he ho hto)
        rw [he] at Ct
        generalize (uintC l p e).1 = n at *
        generalize (uintC l p e).2.1 = p' at *
        clear h he ho
        have hw2 : IntKind.u64.wrap ((l.length : Int) - p') = (l.length : Int) - p' := by rw [wrap_u64]; omega
        have hd2 : decide ((l.length : Int) - p' < n) = false := by simp; omega
        have hn63 : (n : Int) ≤ 9223372036854775807 := by omega
        have Htk := Lib.hid (takeC_ok (l := l) (p := p') (n := n) (by omega))
        go_enter Tryd.func54, Tryd.ntmps54
        go_wp2_with (first
          | (go_at_call 49; refine Ct.out.mono ?_; rintro r w1 ⟨rfl, hc, ho⟩; have hc2 := later hc.er2; have Hcc := Lib.hid hc; clear hc)
          | (go_at_call 62; refine (RLeft_any Hcc.out (by omega)).mono ?_; rintro r w2 ⟨rfl, ho2⟩)
          | (go_at_call 53; refine (RTake_any (Hcc.out.old ho2) hz n (by omega) (by omega)).mono ?_; rintro r w3 ⟨v, rfl, hv, hc3, ho3⟩))
        all_goals first
          | (exfalso; omega)
          | (go_ret
             rw [Htk.out] at hv hc3
             exact RetTake.mk (by rw [Hi.out]) (by rw [Hi.out]) (by rw [Hi.out]) (hv.lower (Nat.le_trans ho.size ho2.size)) hc3 ((ho.old ho2).trans ho3))
  · have Hi := Lib.hid (bytesC_bad (lim := lim) he)
    have hb1 : ((uintC l p e).2.2 != 0) = true := by rw [bne_iff_ne]; exact he
    generalize (uintC l p e).1 = n at *
    generalize (uintC l p e).2 = q at *
    clear h he
    go_enter Tryd.func54, Tryd.ntmps54
    go_wp2_with (go_at_call 49; refine Ct.out.mono ?_; rintro r w1 ⟨rfl, hc, ho⟩; have hc2 := hc.er2; have Hcc := Lib.hid hc; clear hc)
    go_ret
    exact RetTake.mk (by rw [Hi.out]) (by rw [Hi.out]) (by rw [Hi.out]) (OwnN.nil _ _ _) Hcc.out ho
end Go.Proofs.YtaclkoipobgmkaaDoor
