/-
  KeywordBuilds: any sources: their index, or the first fault: the walk.
-/
import Derived.Test.YtohngjkedhpikaaGreatDoorZKwSd
import Derived.Test.YtohngjkedhpikaaGreatDoorZLaid
import Derived.Test.YtohngjkedhpikaaGreatDoorZKwHs
namespace Go.Proofs.YtohngjkedhpikaaGreatDoor
open Go.RowKit Go.Maps
attribute [local go_sem] Old.refl Old.alloc Old.drew Old.setCell OldW.old

theorem RetB.err9 {w' : World} {ns nt : Nat} {M : List Mn} {e : Ending} {f : Flt} (hb : buildK ns nt M = .error f) (h : RetB w' ns nt M e) : ∃ g, e = .returned (.tuple #[.slice none 0 0, .iface 169 (.pointer (some ⟨g, 0, none⟩))]) ∧ IsErr w' (.iface 169 (.pointer (some ⟨g, 0, none⟩))) f.code f.src f.line f.col f.word := by
  rcases h with ⟨f', v, h1, rfl, h2⟩ | ⟨l, u, h1, rfl, h2⟩
  · rw [hb] at h1
    obtain rfl := Except.error.inj h1
    obtain ⟨g, rfl, h3⟩ := h2
    exact ⟨g, rfl, g, rfl, h3⟩
  · rw [hb] at h1; cases h1
theorem RetB.ok9 {w' : World} {ns nt : Nat} {M : List Mn} {e : Ending} {l : List En} (hb : buildK ns nt M = .ok l) (h : RetB w' ns nt M e) : ∃ a c, e = .returned (.tuple #[.slice a l.length c, .nilIface]) ∧ Ents w' (.slice a l.length c) l := by
  rcases h with ⟨f', v, h1, rfl, h2⟩ | ⟨l', u, h1, rfl, h2⟩
  · rw [hb] at h1; cases h1
  · rw [hb] at h1
    obtain rfl := Except.ok.inj h1
    obtain ⟨a, c, rfl, _, _⟩ := Seqs.form h2
    exact ⟨a, c, rfl, h2⟩
theorem RetRB.err9 {w' : World} {ns nt : Nat} {M : List Mn} {e : Ending} {f : Flt} (hb : buildK ns nt M = .error f) (h : RetRB w' ns nt M e) : e = .returned (.tuple #[.slice none 0 0, .agg (fltC f).toArray]) := by
  rcases h with ⟨f', h1, rfl⟩ | ⟨l, u, h1, rfl, h2⟩
  · rw [hb] at h1
    obtain rfl := Except.error.inj h1
    rfl
  · rw [hb] at h1; cases h1
theorem RetRB.ok9 {w' : World} {ns nt : Nat} {M : List Mn} {e : Ending} {l : List En} (hb : buildK ns nt M = .ok l) (h : RetRB w' ns nt M e) : ∃ a c, e = .returned (.tuple #[.slice a l.length c, .agg (fltC zeroF).toArray]) ∧ Ents w' (.slice a l.length c) l := by
  rcases h with ⟨f', h1, rfl⟩ | ⟨l', u, h1, rfl, h2⟩
  · rw [hb] at h1; cases h1
  · rw [hb] at h1
    obtain rfl := Except.ok.inj h1
    obtain ⟨a, c, rfl, _, _⟩ := Seqs.form h2
    exact ⟨a, c, rfl, h2⟩
theorem Ents.nil9 (w : World) : Ents w (.slice none 0 0) [] := Seqs.nil _ _ _
set_option maxRecDepth 100000 in
set_option maxHeartbeats 3200000 in
theorem keywordBuilds_row_walk (W : World) (hT : Tabs W) (S : List (List Tk)) (v : Value) (hv : Srk W v S) (hS : S.length ≤ 1048576) (hB : ∀ T ∈ S, T.length ≤ 1048576 ∧ ∀ t ∈ T, TkB t 1048576) :
    Calls Tryz.prog 8 #[v] W fun e w' => e = .returned (.bool true) ∧ Old W w' := by
  have HA := Lib.hid (awake_any W hT)
  have HN := Lib.hid (fun V (o : Old W V) => few_any v S V (hv.old o) (few_bound hS hB))
  by_cases hfw : totN S S.length ≤ 300 ∧ S.length ≤ 200
  · have hfd : (decide (totN S S.length ≤ 300) && decide (S.length ≤ 200)) = true := by simp [hfw]
    rw [hfd] at HN
    obtain ⟨hm1, hm2⟩ := few_facts hB
    have hM : (mns S S.length).length ≤ 1000 := by have := hfw.1; unfold totN at this; omega
    have ht : totK S S.length ≤ 1000 := by have := hfw.1; unfold totN at this; omega
    have HBd := Lib.hid (fun V (o : Old W V) => Build_any v S V (hv.old o) (hT.old o) hM ht hm1 hm2)
    have HRB := Lib.hid (fun V (o : Old W V) => RBuild_any v S V (hv.old o) hM (fun m hm => ⟨hm1 m hm, hm2 m hm⟩) ht)
    clear hfw hfd hm1 hm2 hM ht hT hv hB hS
    generalize mns S S.length = M at *
    generalize totK S S.length = nt at *
    cases hbk : buildK S.length nt M with
    | error f =>
      have hcode := buildK_code hbk
      have Hbk := Lib.hid hbk
      clear hbk
      obtain ⟨fc, fs, fl, fo, fw⟩ := f
      dsimp only at hcode
      have hnb : (fc == 0) = false := by rw [beq_eq_false_iff_ne]; exact hcode
      go_enter Tryz.func8, Tryz.ntmps8
      go_upto_region 7 with (first
        | (go_at_call 9; refine HA.out.mono ?_; rintro e w1 ⟨rfl, o1⟩)
        | (go_at_call 10; refine (HN.out _ o1).mono ?_; rintro e w2 ⟨rfl, o2⟩; have o12 := o1.trans o2)
        | (go_at_call 11; refine (HBd.out _ o12).mono ?_; rintro e w3 ⟨hR, o3⟩; obtain ⟨g, rfl, hx⟩ := hR.err9 Hbk.out; have Hx := Lib.hid hx; have o13 := o12.trans o3; clear hR hx)
        | (go_at_call 36; refine (HRB.out _ o13).mono ?_; rintro e w4 ⟨hR, o4⟩; obtain rfl := hR.err9 Hbk.out; have o14 := o13.trans o4; clear hR; simp only [fltC]))
      have HL := Lib.hid (GBox.new ⟨fc, fs, fl, fo, fw⟩ w4)
      have o15 := o14.alloc (.cells #[.int .i64 fc, .int .i64 fs, .int .i64 fl, .int .i64 fo, .string fw, .slice none 0 0] 72)
      have o35 := o4.alloc (.cells #[.int .i64 fc, .int .i64 fs, .int .i64 fl, .int .i64 fo, .string fw, .slice none 0 0] 72)
      dsimp only at HL
      generalize w4.alloc (.cells #[.int .i64 fc, .int .i64 fs, .int .i64 fl, .int .i64 fo, .string fw, .slice none 0 0] 72) = w5 at *
      generalize w4.heap.size = g5 at *
      have l0 := HL.out.c0
      have l1 := HL.out.c1
      have l2 := HL.out.c2
      have l3 := HL.out.c3
      have l4 := HL.out.c4
      have l5 := HL.out.c5
      have HTd := Lib.hid (fun (V : OldW w5) => Told_any (f := ⟨fc, fs, fl, fo, fw⟩) (Hx.out.old (o35.trans V.old)))
      have HSm := Lib.hid (fun V => RSameF9_any ⟨fc, fs, fl, fo, fw⟩ V)
      have HSe := Lib.hid (fun V => RSame_any (.slice none 0 0) (.slice none 0 0) [] V (Ents.nil9 V) (Ents.nil9 V))
      simp only [fltC] at HTd HSm
      refine wp_region_old (Old.refl w5) (by kernel_rfl) (by kernel_rfl) ?_
      repeat (go_big_quiet_step (first | with_reducible exact Calls.in_old (HTd.out _) | with_reducible exact Calls.in_old (HSm.out _) | with_reducible exact Calls.in_old (HSe.out _)))
      refine wpQuiet_nil ?_
      rintro ⟨wq, hq⟩
      dsimp only
      go_wp2_with fail
      go_ret
      exact ⟨rfl, o15.trans hq⟩
    | ok l =>
      have Hbk := Lib.hid hbk
      clear hbk
      go_enter Tryz.func8, Tryz.ntmps8
      go_upto_region 7 with (first
        | (go_at_call 9; refine HA.out.mono ?_; rintro e w1 ⟨rfl, o1⟩)
        | (go_at_call 10; refine (HN.out _ o1).mono ?_; rintro e w2 ⟨rfl, o2⟩; have o12 := o1.trans o2)
        | (go_at_call 11; refine (HBd.out _ o12).mono ?_; rintro e w3 ⟨hR, o3⟩; obtain ⟨a3, c3, rfl, hx⟩ := hR.ok9 Hbk.out; have Hx := Lib.hid hx; have o13 := o12.trans o3; clear hR hx)
        | (go_at_call 36; refine (HRB.out _ o13).mono ?_; rintro e w4 ⟨hR, o4⟩; obtain ⟨a4, c4, rfl, hy⟩ := hR.ok9 Hbk.out; have Hy := Lib.hid hy; have o14 := o13.trans o4; clear hR hy; simp only [fltC, zeroF]))
      have HL := Lib.hid (GBox.new ⟨0, 0, 0, 0, ⟨#[]⟩⟩ w4)
      have o15 := o14.alloc (.cells #[.int .i64 0, .int .i64 0, .int .i64 0, .int .i64 0, .string ⟨#[]⟩, .slice none 0 0] 72)
      have o45 := (Old.refl w4).alloc (.cells #[.int .i64 0, .int .i64 0, .int .i64 0, .int .i64 0, .string ⟨#[]⟩, .slice none 0 0] 72)
      have o35 := o4.alloc (.cells #[.int .i64 0, .int .i64 0, .int .i64 0, .int .i64 0, .string ⟨#[]⟩, .slice none 0 0] 72)
      dsimp only at HL
      generalize w4.alloc (.cells #[.int .i64 0, .int .i64 0, .int .i64 0, .int .i64 0, .string ⟨#[]⟩, .slice none 0 0] 72) = w5 at *
      generalize w4.heap.size = g5 at *
      have l0 := HL.out.c0
      have l1 := HL.out.c1
      have l2 := HL.out.c2
      have l3 := HL.out.c3
      have l4 := HL.out.c4
      have l5 := HL.out.c5
      have HTd := Lib.hid (fun V => Told_nil9 V)
      have HSm := Lib.hid (fun V => RSameF9_any ⟨0, 0, 0, 0, ⟨#[]⟩⟩ V)
      have HSe := Lib.hid (fun (V : OldW w5) => RSame_any _ _ l V.w' (Hx.out.old (o35.trans V.old)) (Hy.out.old (o45.trans V.old)))
      simp only [fltC] at HTd HSm
      refine wp_region_old (Old.refl w5) (by kernel_rfl) (by kernel_rfl) ?_
      repeat (go_big_quiet_step (first | with_reducible exact Calls.in_old (HTd.out _) | with_reducible exact Calls.in_old (HSm.out _) | with_reducible exact Calls.in_old (HSe.out _)))
      refine wpQuiet_nil ?_
      rintro ⟨wq, hq⟩
      dsimp only
      go_wp2_with fail
      go_ret
      exact ⟨rfl, o15.trans hq⟩
  · have hfd : (decide (totN S S.length ≤ 300) && decide (S.length ≤ 200)) = false := by
      rw [← Bool.not_eq_true]
      intro h
      rw [Bool.and_eq_true, decide_eq_true_eq, decide_eq_true_eq] at h
      exact hfw h
    rw [hfd] at HN
    clear hfd hfw hv hT hB hS
    go_enter Tryz.func8, Tryz.ntmps8
    go_wp2_with (first
      | (go_at_call 9; refine HA.out.mono ?_; rintro e w1 ⟨rfl, o1⟩)
      | (go_at_call 10; refine (HN.out _ o1).mono ?_; rintro e w2 ⟨rfl, o2⟩; have o12 := o1.trans o2))
    go_ret
    exact ⟨rfl, o12⟩
end Go.Proofs.YtohngjkedhpikaaGreatDoor
