/-
  OCTET, WALKS I: an index, bytes, within a limit.
-/
import Derived.Test.YtaclkoipobgmkaaDoorOctWalksH
namespace Go.Proofs.YtaclkoipobgmkaaDoor
open Go.RowKit
attribute [local go_sem] Old.refl Old.alloc Old.drew Old.setCell OldW.old

/-- what Index answers, where the cursor stands then, its error then -/
def indexC (l : List Int) (p : Nat) (e lim : Int) : Nat × Nat × Int :=
  if (uintC l p e).2.2 = 0 then (if lim < 1 ∨ lim ≤ ((uintC l p e).1 : Int) then (0, p, 1) else uintC l p e) else (0, (uintC l p e).2)
theorem indexC_bad {l : List Int} {p : Nat} {e lim : Int} (h : ¬ (uintC l p e).2.2 = 0) : indexC l p e lim = (0, (uintC l p e).2) := by unfold indexC; rw [if_neg h]
theorem indexC_out {l : List Int} {p : Nat} {e lim : Int} (h : (uintC l p e).2.2 = 0) (h' : lim < 1 ∨ lim ≤ ((uintC l p e).1 : Int)) : indexC l p e lim = (0, p, 1) := by unfold indexC; rw [if_pos h, if_pos h']
theorem indexC_ok {l : List Int} {p : Nat} {e lim : Int} (h : (uintC l p e).2.2 = 0) (h' : ¬ (lim < 1 ∨ lim ≤ ((uintC l p e).1 : Int))) : indexC l p e lim = ((uintC l p e).1, (uintC l p e).2.1, 0) := by unfold indexC; rw [if_pos h, if_neg h', ← h]
theorem uintC_err {l : List Int} {p : Nat} {e : Int} (h : (uintC l p e).2.2 = 0) : e = 0 := by
  by_cases h0 : e = 0
  · exact h0
  · rw [uintC_bad h0] at h; exact h
set_option maxHeartbeats 800000 in
theorem Index_any {w : World} {c : Nat} {l : List Int} {p : Nat} {e : Int} (h : Cur w c l p e) (hb : Byt l) (hz : l.length ≤ 140737488355328) (lim : Int) (hl0 : -9223372036854775808 ≤ lim) (hl1 : lim ≤ 9223372036854775807) :
    Calls Tryd.prog 51 #[.pointer (some ⟨c, 0, none⟩), .int .i64 lim] w (RetCur .i64 c l w ((indexC l p e lim).1 : Nat) (indexC l p e lim).2.1 (indexC l p e lim).2.2) := by
  have Ca := Lib.hid (At_any h)
  have Ct := Lib.hid (Uint_any h hb hz)
  have hlt := uintC_lt hb p e
  have hle := uintC_le hb h.le e
  have hp := h.le
  by_cases he : (uintC l p e).2.2 = 0
  · have hi := uintC_err he
    by_cases ho : lim < 1 ∨ lim ≤ ((uintC l p e).1 : Int)
    · have Hi := Lib.hid (indexC_out he ho)
      rw [he] at Ct
      generalize (uintC l p e).1 = n at *
      generalize (uintC l p e).2.1 = p' at *
      clear h he hi
      by_cases h1 : lim < 1
      · have hd : decide (lim < 1) = true := by simpa using h1
        clear ho
        go_enter Tryd.func51, Tryd.ntmps51
        go_wp2_with (first
          | (go_at_call 16; refine Ca.out.mono ?_; rintro r w1 ⟨rfl, rfl⟩)
          | (go_at_call 12; refine Ct.out.mono ?_; rintro r w1 ⟨rfl, hc, ho⟩)
          | (go_at_call 40; refine (fine_any hc).mono ?_; rintro r w2 ⟨rfl, rfl⟩)
          | (go_at_call 47; refine (back_any hc p hp 1).mono ?_; rintro r w3 ⟨rfl, hc3, ho3⟩))
        all_goals first
          | (exfalso; omega)
          | (go_ret
             rw [failE_zero] at hc3
             exact RetCur.mk (by rw [Hi.out]; rfl) (by rw [Hi.out]) (by rw [Hi.out]) hc3 (ho.trans ho3))
      · have hd : decide (lim < 1) = false := by simpa using h1
        have hlim : lim ≤ n := by omega
        have hw : IntKind.u64.wrap lim = lim := by rw [wrap_u64]; omega
        have hl2 : 1 ≤ lim := by omega
        clear ho
        go_enter Tryd.func51, Tryd.ntmps51
        go_wp2_with (first
          | (go_at_call 16; refine Ca.out.mono ?_; rintro r w1 ⟨rfl, rfl⟩)
          | (go_at_call 12; refine Ct.out.mono ?_; rintro r w1 ⟨rfl, hc, ho⟩)
          | (go_at_call 40; refine (fine_any hc).mono ?_; rintro r w2 ⟨rfl, rfl⟩)
          | (go_at_call 47; refine (back_any hc p hp 1).mono ?_; rintro r w3 ⟨rfl, hc3, ho3⟩))
        all_goals first
          | (exfalso; omega)
          | (go_ret
             rw [failE_zero] at hc3
             exact RetCur.mk (by rw [Hi.out]; rfl) (by rw [Hi.out]) (by rw [Hi.out]) hc3 (ho.trans ho3))
    · have Hi := Lib.hid (indexC_ok he ho)
      rw [he] at Ct
      generalize (uintC l p e).1 = n at *
      generalize (uintC l p e).2.1 = p' at *
      clear h he hi
      have h1 : ¬ lim < 1 := by omega
      have h2 : ¬ lim ≤ n := by omega
      have hd : decide (lim < 1) = false := by simpa using h1
      have hl2 : 1 ≤ lim := by omega
      have hw : IntKind.u64.wrap lim = lim := by rw [wrap_u64]; omega
      have hn63 : (n : Int) ≤ 9223372036854775807 := by omega
      clear ho
      go_enter Tryd.func51, Tryd.ntmps51
      go_wp2_with (first
        | (go_at_call 16; refine Ca.out.mono ?_; rintro r w1 ⟨rfl, rfl⟩)
        | (go_at_call 12; refine Ct.out.mono ?_; rintro r w1 ⟨rfl, hc, ho⟩)
        | (go_at_call 40; refine (fine_any hc).mono ?_; rintro r w2 ⟨rfl, rfl⟩))
      all_goals first
        | (exfalso; omega)
        | (go_ret
           exact RetCur.mk (by rw [Hi.out]) (by rw [Hi.out]) (by rw [Hi.out]) hc ho)
  · have Hi := Lib.hid (indexC_bad (lim := lim) he)
    have hb1 : ((uintC l p e).2.2 == 0) = false := by rw [beq_eq_false_iff_ne]; exact he
    generalize (uintC l p e).1 = n at *
    generalize (uintC l p e).2 = q at *
    clear h he
    go_enter Tryd.func51, Tryd.ntmps51
    go_wp2_with (first
      | (go_at_call 16; refine Ca.out.mono ?_; rintro r w1 ⟨rfl, rfl⟩)
      | (go_at_call 12; refine Ct.out.mono ?_; rintro r w1 ⟨rfl, hc, ho⟩)
      | (go_at_call 40; refine (fine_any hc).mono ?_; rintro r w2 ⟨rfl, rfl⟩))
    go_ret
    exact RetCur.mk (by rw [Hi.out]; rfl) (by rw [Hi.out]) (by rw [Hi.out]) hc ho
/-- what Bytes answers, where the cursor stands then, its error then -/
def bytesC (l : List Int) (p : Nat) (e lim : Int) : List Int × Nat × Int :=
  if (uintC l p e).2.2 = 0 then (if lim < 0 ∨ lim < ((uintC l p e).1 : Int) then ([], p, 2) else if l.length < (uintC l p e).2.1 + (uintC l p e).1 then ([], p, 30)
    else (cutL l (uintC l p e).2.1 (uintC l p e).1, (uintC l p e).2.1 + (uintC l p e).1, 0)) else ([], (uintC l p e).2)
theorem bytesC_bad {l : List Int} {p : Nat} {e lim : Int} (h : ¬ (uintC l p e).2.2 = 0) : bytesC l p e lim = ([], (uintC l p e).2) := by unfold bytesC; rw [if_neg h]
theorem bytesC_long {l : List Int} {p : Nat} {e lim : Int} (h : (uintC l p e).2.2 = 0) (h' : lim < 0 ∨ lim < ((uintC l p e).1 : Int)) : bytesC l p e lim = ([], p, 2) := by unfold bytesC; rw [if_pos h, if_pos h']
theorem bytesC_torn {l : List Int} {p : Nat} {e lim : Int} (h : (uintC l p e).2.2 = 0) (h' : ¬ (lim < 0 ∨ lim < ((uintC l p e).1 : Int))) (h2 : l.length < (uintC l p e).2.1 + (uintC l p e).1) : bytesC l p e lim = ([], p, 30) := by
  unfold bytesC; rw [if_pos h, if_neg h', if_pos h2]
theorem bytesC_ok {l : List Int} {p : Nat} {e lim : Int} (h : (uintC l p e).2.2 = 0) (h' : ¬ (lim < 0 ∨ lim < ((uintC l p e).1 : Int))) (h2 : ¬ l.length < (uintC l p e).2.1 + (uintC l p e).1) :
    bytesC l p e lim = (cutL l (uintC l p e).2.1 (uintC l p e).1, (uintC l p e).2.1 + (uintC l p e).1, 0) := by
  unfold bytesC; rw [if_pos h, if_neg h', if_neg h2]
set_option maxHeartbeats 800000 in
theorem Bytes_any {w : World} {c : Nat} {l : List Int} {p : Nat} {e : Int} (h : Cur w c l p e) (hb : Byt l) (hz : l.length ≤ 140737488355328) (lim : Int) (hl0 : -9223372036854775808 ≤ lim) (hl1 : lim ≤ 9223372036854775807) :
    Calls Tryd.prog 33 #[.pointer (some ⟨c, 0, none⟩), .int .i64 lim] w (RetTake c l w (bytesC l p e lim).1 (bytesC l p e lim).2.1 (bytesC l p e lim).2.2) := by
  have Ca := Lib.hid (At_any h)
  have Ct := Lib.hid (Uint_any h hb hz)
  have hlt := uintC_lt hb p e
  have hle := uintC_le hb h.le e
  have hp := h.le
  have hcl := h.lt
  by_cases he : (uintC l p e).2.2 = 0
  · by_cases ho : lim < 0 ∨ lim < ((uintC l p e).1 : Int)
    · have Hi := Lib.hid (bytesC_long he ho)
      rw [he] at Ct
      generalize (uintC l p e).1 = n at *
      generalize (uintC l p e).2.1 = p' at *
      clear h he
      by_cases h1 : lim < 0
      · have hd : decide (lim < 0) = true := by simpa using h1
        clear ho
        go_enter Tryd.func33, Tryd.ntmps33
        go_wp2_with (first
          | (go_at_call 16; refine Ca.out.mono ?_; rintro r w1 ⟨rfl, rfl⟩)
          | (go_at_call 12; refine Ct.out.mono ?_; rintro r w1 ⟨rfl, hc, ho⟩)
          | (go_at_call 40; refine (fine_any hc).mono ?_; rintro r w2 ⟨rfl, rfl⟩)
          | (go_at_call 47; refine (back_any hc p hp 2).mono ?_; rintro r w3 ⟨rfl, hc3, ho3⟩))
        all_goals first
          | (exfalso; omega)
          | (go_ret
             rw [failE_zero] at hc3
             exact RetTake.mk (by rw [Hi.out]) (by rw [Hi.out]) (by rw [Hi.out]) (OwnN.nil _ _ _) hc3 (ho.trans ho3))
      · have hd : decide (lim < 0) = false := by simpa using h1
        have hlim : lim < n := by omega
        have hw : IntKind.u64.wrap lim = lim := by rw [wrap_u64]; omega
        have hl2 : 0 ≤ lim := by omega
        clear ho
        go_enter Tryd.func33, Tryd.ntmps33
        go_wp2_with (first
          | (go_at_call 16; refine Ca.out.mono ?_; rintro r w1 ⟨rfl, rfl⟩)
          | (go_at_call 12; refine Ct.out.mono ?_; rintro r w1 ⟨rfl, hc, ho⟩)
          | (go_at_call 40; refine (fine_any hc).mono ?_; rintro r w2 ⟨rfl, rfl⟩)
          | (go_at_call 47; refine (back_any hc p hp 2).mono ?_; rintro r w3 ⟨rfl, hc3, ho3⟩))
        all_goals first
          | (exfalso; omega)
          | (go_ret
             rw [failE_zero] at hc3
             exact RetTake.mk (by rw [Hi.out]) (by rw [Hi.out]) (by rw [Hi.out]) (OwnN.nil _ _ _) hc3 (ho.trans ho3))
    · have h1 : ¬ lim < 0 := by omega
      have hlim : ¬ lim < ((uintC l p e).1 : Int) := by omega
      have hw : IntKind.u64.wrap lim = lim := by rw [wrap_u64]; omega
      have hd : decide (lim < 0) = false := by simpa using h1
      have hl2 : 0 ≤ lim := by omega
      by_cases hto : l.length < (uintC l p e).2.1 + (uintC l p e).1
      · have Hi := Lib.hid (bytesC_torn he ho hto)
        rw [he] at Ct
        generalize (uintC l p e).1 = n at *
        generalize (uintC l p e).2.1 = p' at *
        clear h he ho
        have hw2 : IntKind.u64.wrap ((l.length : Int) - p') = (l.length : Int) - p' := by rw [wrap_u64]; omega
        have hd2 : decide ((l.length : Int) - p' < n) = true := by simp; omega
        go_enter Tryd.func33, Tryd.ntmps33
        go_wp2_with (first
          | (go_at_call 16; refine Ca.out.mono ?_; rintro r w1 ⟨rfl, rfl⟩)
          | (go_at_call 12; refine Ct.out.mono ?_; rintro r w1 ⟨rfl, hc, ho⟩)
          | (go_at_call 40; refine (fine_any hc).mono ?_; rintro r w2 ⟨rfl, rfl⟩)
          | (go_at_call 36; refine (Left_any hc (by omega)).mono ?_; rintro r w2 ⟨rfl, ho2⟩)
          | (go_at_call 47; refine (back_any (hc.old ho2) p hp 30).mono ?_; rintro r w3 ⟨rfl, hc3, ho3⟩))
        all_goals first
          | (exfalso; omega)
          | (go_ret
             rw [failE_zero] at hc3
             exact RetTake.mk (by rw [Hi.out]) (by rw [Hi.out]) (by rw [Hi.out]) (OwnN.nil _ _ _) hc3 ((ho.old ho2).trans ho3))
      · have Hi := Lib.hid (bytesC_ok he ho hto)
        rw [he] at Ct
        generalize (uintC l p e).1 = n at *
        generalize (uintC l p e).2.1 = p' at *
        clear h he ho
        have hw2 : IntKind.u64.wrap ((l.length : Int) - p') = (l.length : Int) - p' := by rw [wrap_u64]; omega
        have hd2 : decide ((l.length : Int) - p' < n) = false := by simp; omega
        have hn63 : (n : Int) ≤ 9223372036854775807 := by omega
        have Htk := Lib.hid (takeC_ok (l := l) (p := p') (n := n) (by omega))
        go_enter Tryd.func33, Tryd.ntmps33
        go_wp2_with (first
          | (go_at_call 16; refine Ca.out.mono ?_; rintro r w1 ⟨rfl, rfl⟩)
          | (go_at_call 12; refine Ct.out.mono ?_; rintro r w1 ⟨rfl, hc, ho⟩)
          | (go_at_call 40; refine (fine_any hc).mono ?_; rintro r w2 ⟨rfl, rfl⟩)
          | (go_at_call 36; refine (Left_any hc (by omega)).mono ?_; rintro r w2 ⟨rfl, ho2⟩)
          | (go_at_call 39; refine (Take_any (hc.old ho2) hz n (by omega) (by omega)).mono ?_; rintro r w3 ⟨v, rfl, hv, hc3, ho3⟩))
        all_goals first
          | (exfalso; omega)
          | (go_ret
             rw [Htk.out] at hv hc3
             exact RetTake.mk (by rw [Hi.out]) (by rw [Hi.out]) (by rw [Hi.out]) (hv.lower (Nat.le_trans ho.size ho2.size)) hc3 ((ho.old ho2).trans ho3))
  · have Hi := Lib.hid (bytesC_bad (lim := lim) he)
    have hb1 : ((uintC l p e).2.2 == 0) = false := by rw [beq_eq_false_iff_ne]; exact he
    generalize (uintC l p e).1 = n at *
    generalize (uintC l p e).2 = q at *
    clear h he
    go_enter Tryd.func33, Tryd.ntmps33
    go_wp2_with (first
      | (go_at_call 16; refine Ca.out.mono ?_; rintro r w1 ⟨rfl, rfl⟩)
      | (go_at_call 12; refine Ct.out.mono ?_; rintro r w1 ⟨rfl, hc, ho⟩)
      | (go_at_call 40; refine (fine_any hc).mono ?_; rintro r w2 ⟨rfl, rfl⟩))
    go_ret
    exact RetTake.mk (by rw [Hi.out]) (by rw [Hi.out]) (by rw [Hi.out]) (OwnN.nil _ _ _) hc ho
end Go.Proofs.YtaclkoipobgmkaaDoor
