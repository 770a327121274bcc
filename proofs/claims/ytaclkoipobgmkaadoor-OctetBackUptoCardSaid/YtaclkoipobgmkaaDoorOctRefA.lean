/-
  OCTET, THE DOCUMENT's CURSOR, A: what is left, stops, bytes taken, numbers.
-/
import Derived.Test.YtaclkoipobgmkaaDoorOctWalksJ
import Derived.IntWalk
namespace Go.Proofs.YtaclkoipobgmkaaDoor
open Go.RowKit
attribute [local go_sem] Old.refl Old.alloc Old.drew Old.setCell OldW.old

variable {l : List Int} {p c : Nat} {e : Int} {w : World}
theorem RLeft_any (h : Cur w c l p e) (hz : l.length ≤ 9223372036854775807) : Calls Tryd.prog 62 #[.pointer (some ⟨c, 0, none⟩)] w fun r w' => r = .returned (.int .i64 (l.length - p)) ∧ Old w w' := by
  have h1 := later h.at1
  have hle := h.le
  obtain ⟨a, cap, h0, _, _⟩ := h.row
  have h0' := later h0
  clear h h0
  go_enter Tryd.func62, Tryd.ntmps62
  go_wp2_with fail
  refine wp_region_old (Old.refl _) (by kernel_rfl) (by kernel_rfl) ?_
  repeat (go_big_quiet_step (fail))
  refine wpQuiet_nil ?_
  rintro ⟨wq, hq⟩
  dsimp only
  go_wp2_with fail
  go_ret
  exact ⟨rfl, hq⟩
theorem Stop_any {e0 e : Int} (h : Cur w c l p e0) :
    Calls Tryd.prog 56 #[.pointer (some ⟨c, 0, none⟩), .int .i64 e] w fun r w' => r = .returned (.tuple #[]) ∧ Cur w' c l p (failE e0 e) ∧ OldBut c w w' := by
  have h2 := h.er2
  have hf := h.fz 2
  have Hc := Lib.hid h
  clear h
  by_cases h0 : e0 = 0
  · subst h0
    go_enter Tryd.func56, Tryd.ntmps56
    go_wp2
    go_end0
    exact ⟨rfl, by rw [failE_zero]; exact Hc.out.setEr, (OldBut.refl c w).setCell 2 _⟩
  · have hb : (e0 == 0) = false := by rw [beq_eq_false_iff_ne]; exact h0
    have Hf := Lib.hid (failE_more h0 e)
    clear h0
    go_enter Tryd.func56, Tryd.ntmps56
    go_wp2
    go_end0
    exact ⟨rfl, by rw [Hf.out]; exact Hc.out, OldBut.refl c w⟩
theorem Nums.sub {w W : World} {b off cap : Nat} {l : List Int} (ht0 : ∀ i, i < l.length → ∀ W, Old w W → W.cell? ⟨b, off + i, none⟩ = some (.int .u8 (ix l i))) (h1 : l.length ≤ cap) (h2 : cap ≤ 9223372036854775807) {p m : Nat} (h : p + m ≤ l.length) (o : Old w W) :
    Nums .u8 W (.slice (some ⟨b, off + p, none⟩) m (cap - p)) (cutL l p m) := by
  have hl := cutL_length h
  have := Nums.mk (k := .u8) (w := W) (b := b) (off := off + p) (cap := cap - p) (l := cutL l p m) (by omega) (by omega) (fun i hi => by
    rw [hl] at hi
    rw [Nat.add_assoc, ht0 (p + i) (by omega) W o, cutL_ix h hi])
  rwa [hl] at this
set_option maxHeartbeats 800000 in
theorem RTake_any (h : Cur w c l p e) (hz : l.length ≤ 140737488355328) (n : Int) (hn0 : -9223372036854775808 ≤ n) (hn1 : n ≤ 9223372036854775807) :
    Calls Tryd.prog 53 #[.pointer (some ⟨c, 0, none⟩), .int .i64 n] w (RetTake c l w (takeC l p e n).1 (takeC l p e n).2.1 (takeC l p e n).2.2) := by
  have Hc := Lib.hid h
  have hle := h.le
  have he2 := later h.er2
  by_cases h0 : e = 0
  · subst h0
    have Cl := Lib.hid (RLeft_any h (by omega))
    by_cases hneg : n < 0
    · have Hu := Lib.hid (takeC_range (l := l) (p := p) hneg)
      clear h
      go_enter Tryd.func53, Tryd.ntmps53
      go_wp2_with (go_at_call 56; refine (Stop_any Hc.out).mono ?_; rintro r w3 ⟨rfl, hc3, ho3⟩)
      go_ret
      rw [failE_zero] at hc3
      exact RetTake.mk (by rw [Hu.out]) (by rw [Hu.out]) (by rw [Hu.out]) (OwnN.nil _ _ _) hc3 ho3
    · by_cases htorn : (l.length : Int) - p < n
      · have Hu := Lib.hid (takeC_torn hneg htorn)
        have hd : decide ((l.length : Int) - p < n) = true := by simpa using htorn
        clear h
        go_enter Tryd.func53, Tryd.ntmps53
        go_wp2_with (first | (go_at_call 62; refine Cl.out.mono ?_; rintro r w2 ⟨rfl, ho⟩) | (go_at_call 56; refine (Stop_any (Hc.out.old ho)).mono ?_; rintro r w3 ⟨rfl, hc3, ho3⟩))
        all_goals first
          | (exfalso; omega)
          | (go_ret
             rw [failE_zero] at hc3
             exact RetTake.mk (by rw [Hu.out]) (by rw [Hu.out]) (by rw [Hu.out]) (OwnN.nil _ _ _) hc3 ((OldBut.of_old ho).trans ho3))
      · obtain ⟨m, rfl⟩ := Int.eq_ofNat_of_zero_le (show 0 ≤ n by omega)
        have Hu := Lib.hid (takeC_ok htorn)
        have hd : decide ((l.length : Int) - p < m) = false := by simpa using htorn
        have hpm : p + m ≤ l.length := by omega
        have h1 := later h.at1
        have hf1 := h.fzs 1
        obtain ⟨a, cap, hc0, hr, hne⟩ := h.row
        obtain ⟨_, _, b, off, eq, hcap1, hcap2, ha, ht0⟩ := hr
        obtain ⟨rfl, _, rfl⟩ := Value.slice.inj eq
        have h0' := later hc0
        have hclt := h.lt
        have hpm0 : 0 ≤ (p : Int) + m := by omega
        have hpm1 : (p : Int) + m ≤ cap := by omega
        have hpm2 : (p : Int) ≤ (p : Int) + m := by omega
        have hpm3 : (p : Int) + m ≤ 140737488355328 := by omega
        have Ht := Lib.hid ht0
        clear h hc0 hne ht0 eq
        by_cases hm : m = 0
        · have Hm := Lib.hid hm
          have hw : IntKind.i64.wrap ((p : Int) + m) = (p : Int) + m := IntWalk.i64_in _ (by omega)
          have ht2 : ((p : Int) + m).toNat = p + m := by omega
          have Hcut := Lib.hid (show cutL l p m = [] from by rw [hm]; rfl)
          clear ha hm
          rcases a with _ | ad
          all_goals
            go_enter Tryd.func53, Tryd.ntmps53
            go_wp2_with (first
              | (go_at_call 62; refine Cl.out.mono ?_; rintro r w2 ⟨rfl, ho⟩))
            all_goals first
              | (exfalso; omega)
              | skip
            refine wp_region_still_tail 15 (by kernel_rfl) (by kernel_rfl) ?_
            simp only [List.take_succ_cons, List.take_zero, List.drop_succ_cons, List.drop_zero]
            repeat still_step
            refine wpStill_nil ?_
            refine wpList_append_nums (k := .u8) (w0 := w) rfl _ _ 22 rfl 5 Tryd.underlying22 infoByte _ [] [] rfl (OwnN.nil _ _ _) (.slice _ m (cap - p)) rfl (by rw [Hm.out]; exact ⟨_, _, 0, 0, rfl, by simp, by omega, by simp, by simp⟩) (by simp) (by simp) ho.drew ?_
            intro v' w3 h3 ho3 _
            clear hw ht2
            go_wp2_with fail
            all_goals first
              | (exfalso; omega)
              | skip
            all_goals
              go_ret
              obtain ⟨a3, c3, rfl, _, _⟩ := ownsRow_form h3
              have hv3 : OwnN .u8 5 w (w3.setCell ⟨c, 1, none⟩ (.int .i64 ((p : Int) + m))) (.slice a3 0 c3) [] := by
                obtain ⟨h31, h32⟩ := h3
                refine ⟨h31, ?_⟩
                rcases h32 with h32 | ⟨g, cp, cur, e, hb, hg, r⟩
                · exact .inl h32
                · refine .inr ⟨g, cp, cur, e, hb, ?_, r⟩
                  rw [((OldBut.refl c w3).setCell 1 _).block g (Array.getElem?_eq_some_iff.1 hg).1 (by omega)]
                  exact hg
              exact RetTake.mk (by rw [Hu.out, Hcut.out]) (by rw [Hu.out]) (by rw [Hu.out]) hv3 ((Hc.out.old ho3).setAt hpm) ((OldBut.of_old ho3).setCell _ _)
        · obtain rfl := ha (by omega)
          have hcp : ¬ cap = p := by omega
          have hw : IntKind.i64.wrap ((p : Int) + m) = (p : Int) + m := IntWalk.i64_in _ (by omega)
          have ht2 : ((p : Int) + m).toNat = p + m := by omega
          clear ha
          go_enter Tryd.func53, Tryd.ntmps53
          go_wp2_with (first
            | (go_at_call 62; refine Cl.out.mono ?_; rintro r w2 ⟨rfl, ho⟩))
          all_goals first
            | (exfalso; omega)
            | skip
          refine wp_region_still_tail 15 (by kernel_rfl) (by kernel_rfl) ?_
          simp only [List.take_succ_cons, List.take_zero, List.drop_succ_cons, List.drop_zero]
          repeat still_step
          refine wpStill_nil ?_
          refine wpList_append_nums (k := .u8) (w0 := w) rfl _ _ 22 rfl 5 Tryd.underlying22 infoByte _ [] (cutL l p m) rfl (OwnN.nil _ _ _) (.slice (some ⟨b, off + p, none⟩) m (cap - p)) rfl (Nums.sub Ht.out hcap1 hcap2 hpm ho.drew) (by simp [cutL_length hpm]; omega) (by simp [cutL_length hpm]; omega) ho.drew ?_
          intro v' w3 h3 ho3 _
          clear hw ht2
          go_wp2_with fail
          all_goals first
            | (exfalso; omega)
            | skip
          go_ret
          obtain ⟨a3, c3, rfl, _, _⟩ := ownsRow_form h3
          obtain ⟨g, rfl, hg, _⟩ := h3.block (by rw [List.nil_append, cutL_length hpm]; omega)
          have hne : (⟨g, 0, none⟩ : Addr).block ≠ c := by show g ≠ c; omega
          exact RetTake.mk (by rw [Hu.out]; rfl) (by rw [Hu.out]) (by rw [Hu.out]) (h3.setCell_other _ (fun x hx => by cases hx; exact hne)) ((Hc.out.old ho3).setAt hpm) ((OldBut.of_old ho3).setCell _ _)
  · have hb : (e == 0) = false := by rw [beq_eq_false_iff_ne]; exact h0
    have hb' : (e != 0) = true := by rw [bne_iff_ne]; exact h0
    have Hu := Lib.hid (takeC_bad (l := l) (p := p) (n := n) h0)
    clear h0 h
    go_enter Tryd.func53, Tryd.ntmps53
    go_wp2_with fail
    go_ret
    exact RetTake.mk (by rw [Hu.out]) (by rw [Hu.out]) (by rw [Hu.out]) (OwnN.nil _ _ _) Hc.out (OldBut.refl c w)
end Go.Proofs.YtaclkoipobgmkaaDoor
