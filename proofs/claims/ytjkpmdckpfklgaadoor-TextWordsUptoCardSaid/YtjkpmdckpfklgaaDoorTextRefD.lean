/-
  TEXT, THE DOCUMENT's, D: words; cuts.
-/
import Derived.Test.YtjkpmdckpfklgaaDoorTextWords
import Derived.Test.YtjkpmdckpfklgaaDoorTextRefC
namespace Go.Proofs.YtjkpmdckpfklgaaDoor
open Go.RowKit
attribute [local go_sem] Old.refl Old.alloc Old.drew Old.setCell OldW.old

theorem infoRWord : (Tryd.prog.info? 60).map (fun i => (i.zero, i.size, i.bytes)) = some (some (.agg #[.string ⟨#[]⟩, .int .i64 0, .int .i64 0]), 3, 32) := by kernel_rfl
set_option maxRecDepth 100000 in
set_option maxHeartbeats 3200000 in
theorem RWords_any (s : ByteArray) (w : World) (hs : s.size * 32 ≤ 140737488355328) :
    Calls Tryd.prog 30 #[.string s] w fun e w' => (∃ v, e = .returned v ∧ OwnS (cellE s) 60 w w' v (wordsS s)) ∧ Old w w' := by
  go_enter Tryd.func30, Tryd.ntmps30
  go_wp2_with fail
  go_loopw [3, 4, 5] (fun x f j wr => ∃ (i p : Nat) (t : List CellR), i ≤ s.size + 1 ∧ p ≤ i ∧ t.length ≤ p ∧ f = .int .i64 p ∧ j = .int .i64 i ∧ OwnS (cellE s) 60 w wr x t ∧ Old w wr ∧ wordsGo s i p t = wordsS s) (fun _ _ j _ => s.size + 1 - (intOf j).toNat)
  case atStart => exact ⟨0, 0, [], Nat.zero_le _, Nat.zero_le _, Nat.zero_le _, rfl, rfl, OwnS.nil _ _ _ _, Old.refl _, rfl⟩
  case round =>
    obtain ⟨i, p, t, hi, hp, ht, rfl, rfl, hown, ho, hat⟩ := hrel
    have Hat := Lib.hid hat
    have Hown := Lib.hid hown
    clear hat hown
    obtain ⟨ax, cx, rfl, hc1, hc2⟩ := Hown.out.form
    by_cases hlt : i < s.size
    · have hlt' : (i : Int) < s.size := by omega
      have hle' : (i : Int) ≤ s.size := by omega
      have hb := byte_ne s hlt
      by_cases hsp : isSp s i = true
      · rw [hsp] at hb
        simp only [Bool.not_true] at hb
        have Hon := Lib.hid (wordsGo_cut (by omega) (fun _ => hsp) p t)
        clear hsp
        by_cases hpi : p < i
        · have hpi' : (p : Int) < i := by omega
          have HW := Lib.hid (fun V => RWide_any (s.extract p i) V (by have := extract_size (s := s) (p := p) (i := i); omega))
          have hws := wideS_le (s.extract p i)
          have hes := extract_size (s := s) (p := p) (i := i)
          have Ha := Lib.hid (show addW s t p i = t ++ [⟨p, i, wideS (s.extract p i)⟩] from if_pos hpi)
          generalize wideS (s.extract p i) = W at *
          obtain ⟨i0, hi0, hz0, hz1, hz2⟩ := info_parts infoRWord
          have hownr : ∀ V, Old wr V → V.ownsRow w.heap.size 60 3 (.slice ax t.length cx) t.length ((cellE s).all t) := fun V o => Hown.out.old o
          go_upto_region 8 with fail
          go_region_law (first
            | (refine step_append_lies _ (by rfl) _ _ _ (by rfl) w.heap.size 60 i0 _ 3 32 Tryd.underlying57 hi0 hz0 hz1 hz2 rfl (by omega) _ t.length ((cellE s).all t) (by rfl) (hownr _ (((Old.refl wr).drew.trans ho1).alloc _)) ⟨w1.heap.size, 0, none⟩ 1 1 ((cellE s).enc ⟨p, i, W⟩) (by rfl) (by rfl) (World.news_of_block (cs := ((cellE s).enc ⟨p, i, W⟩).toArray) (t := 60) (fr := (0, 0)) (heap_alloc_new w1 _)) ((cellE s).one ⟨p, i, W⟩) (by omega) (by simp [maxLen]; omega) (by omega) (by have h1 := ho.size; have h2 := ho1.size; simp [go_sem] at h2 ⊢; omega) (w1.heap.size + 1) (by simp) ?_; intro gg cap w4 hown4 hgr hat hltg)
            | (go_simp; go_at_call 23; refine (HW.out _).mono ?_; rintro e w1 ⟨rfl, ho1⟩))
          have ho4 : Old w w4 := ((ho.drew.trans ho1).alloc _).grown hgr (fun b hb => (World.ownsRow.lt Hown.out b hb).1)
          go_wp2_with fail
          go_roundw
          case rel => exact ⟨i + 1, i + 1, t ++ [⟨p, i, W⟩], by omega, by omega, by simp; omega, by go_num, by go_num, by unfold OwnS; rw [Enc.all_append, Enc.all_one, List.length_append]; exact hown4, ho4, by rw [← Hat.out, Hon.out, Ha.out]⟩
          case measure => simp [intOf]; omega
        · have hpi' : ¬ (p : Int) < i := by omega
          go_wp2_with fail
          go_roundw
          case rel => exact ⟨i + 1, i + 1, t, by omega, by omega, by omega, by go_num, by go_num, Hown.out, ho, by rw [← Hat.out, Hon.out]; unfold addW; rw [if_neg hpi]⟩
          case measure => simp [intOf]; omega
      · have hsp := Bool.eq_false_iff.2 hsp
        rw [hsp] at hb
        simp only [Bool.not_false] at hb
        have Hon := Lib.hid (wordsGo_in hlt hsp p t)
        clear hsp
        go_wp2_with fail
        go_roundw
        case rel => exact ⟨i + 1, p, t, by omega, by omega, by omega, rfl, by go_num, Hown.out, ho, by rw [← Hat.out, Hon.out]⟩
        case measure => simp [intOf]; omega
    · have hlt' : ¬ (i : Int) < s.size := by omega
      by_cases hle : i ≤ s.size
      · have hle' : (i : Int) ≤ s.size := by omega
        have Hon := Lib.hid (wordsGo_cut hle (fun h => absurd h hlt) p t)
        by_cases hpi : p < i
        · have hpi' : (p : Int) < i := by omega
          have HW := Lib.hid (fun V => RWide_any (s.extract p i) V (by have := extract_size (s := s) (p := p) (i := i); omega))
          have hws := wideS_le (s.extract p i)
          have hes := extract_size (s := s) (p := p) (i := i)
          have Ha := Lib.hid (show addW s t p i = t ++ [⟨p, i, wideS (s.extract p i)⟩] from if_pos hpi)
          generalize wideS (s.extract p i) = W at *
          obtain ⟨i0, hi0, hz0, hz1, hz2⟩ := info_parts infoRWord
          have hownr : ∀ V, Old wr V → V.ownsRow w.heap.size 60 3 (.slice ax t.length cx) t.length ((cellE s).all t) := fun V o => Hown.out.old o
          go_upto_region 8 with fail
          go_region_law (first
            | (refine step_append_lies _ (by rfl) _ _ _ (by rfl) w.heap.size 60 i0 _ 3 32 Tryd.underlying57 hi0 hz0 hz1 hz2 rfl (by omega) _ t.length ((cellE s).all t) (by rfl) (hownr _ (((Old.refl wr).drew.trans ho1).alloc _)) ⟨w1.heap.size, 0, none⟩ 1 1 ((cellE s).enc ⟨p, i, W⟩) (by rfl) (by rfl) (World.news_of_block (cs := ((cellE s).enc ⟨p, i, W⟩).toArray) (t := 60) (fr := (0, 0)) (heap_alloc_new w1 _)) ((cellE s).one ⟨p, i, W⟩) (by omega) (by simp [maxLen]; omega) (by omega) (by have h1 := ho.size; have h2 := ho1.size; simp [go_sem] at h2 ⊢; omega) (w1.heap.size + 1) (by simp) ?_; intro gg cap w4 hown4 hgr hat hltg)
            | (go_simp; go_at_call 23; refine (HW.out _).mono ?_; rintro e w1 ⟨rfl, ho1⟩))
          have ho4 : Old w w4 := ((ho.drew.trans ho1).alloc _).grown hgr (fun b hb => (World.ownsRow.lt Hown.out b hb).1)
          go_wp2_with fail
          go_roundw
          case rel => exact ⟨i + 1, i + 1, t ++ [⟨p, i, W⟩], by omega, by omega, by simp; omega, by go_num, by go_num, by unfold OwnS; rw [Enc.all_append, Enc.all_one, List.length_append]; exact hown4, ho4, by rw [← Hat.out, Hon.out, Ha.out]⟩
          case measure => simp [intOf]; omega
        · have hpi' : ¬ (p : Int) < i := by omega
          go_wp2_with fail
          go_roundw
          case rel => exact ⟨i + 1, i + 1, t, by omega, by omega, by omega, by go_num, by go_num, Hown.out, ho, by rw [← Hat.out, Hon.out]; unfold addW; rw [if_neg hpi]⟩
          case measure => simp [intOf]; omega
      · have hle' : ¬ (i : Int) ≤ s.size := by omega
        have Hend := Lib.hid (wordsGo_end hle p t)
        go_wp2_with fail
        go_ret
        exact ⟨⟨_, rfl, by rw [← Hat.out, Hend.out]; exact Hown.out⟩, ho⟩
end Go.Proofs.YtjkpmdckpfklgaaDoor
