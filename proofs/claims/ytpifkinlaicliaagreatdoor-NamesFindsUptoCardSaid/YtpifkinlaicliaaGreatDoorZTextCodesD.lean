/-
  TEXT, CODES D: the document's width.
-/
import Derived.Test.YtpifkinlaicliaaGreatDoorZTextWide
namespace Go.Proofs.YtpifkinlaicliaaGreatDoor
open Go.RowKit
attribute [local go_sem] Old.refl Old.alloc Old.drew Old.setCell OldW.old

theorem Control2_any (r : Int) (w : World) :
    Calls Tryz.prog 68 #[.int .i32 r] w fun e w' => e = .returned (.bool (inR r 0 31 || inR r 127 159)) ∧ w = w' := by
  go_enter Tryz.func68, Tryz.ntmps68
  go_wp2
  all_goals
    go_ret
    refine ⟨ret_bool ?_, rfl⟩
    rw [Bool.eq_iff_iff]
    simp [inR_iff]
    omega
theorem Control2_at {r : Int} {b : Bool} (h : (inR r 0 31 || inR r 127 159) = b) (w : World) :
    Calls Tryz.prog 68 #[.int .i32 r] w fun e w' => e = .returned (.bool b) ∧ w = w' := by
  subst h; exact Control2_any r w
set_option maxRecDepth 100000 in
set_option maxHeartbeats 12800000 in
theorem RWidth_any (r : Int) (w : World) :
    Calls Tryz.prog 88 #[.int .i32 r] w fun e w' => e = .returned (.int .i64 (widC r)) ∧ w = w' := by
  by_cases c0 : (inR r 0 31 || inR r 127 159) = true
  · have Hs := Lib.hid (widC_zero (r := r) (by simp only [zeroW, Bool.or_eq_true] at c0 ⊢; exact .inl (.inl (.inl c0))))
    go_enter Tryz.func88, Tryz.ntmps88
    go_upto_region 1 with fail
    refine wp_region_calm ?_
    repeat (go_big_quiet_step (first | (exact Calls.calm (in_at (by assumption) _)) | (exact Calls.calm (Control2_at (by assumption) _))))
    refine wpQuiet_nil ?_
    go_wp2_with fail
    go_ret
    exact ⟨ret_i (by rw [Hs.out]; rfl), rfl⟩
  rw [Bool.not_eq_true] at c0
  by_cases z0 : inR r 768 879 = true
  · have Hs := Lib.hid (widC_zero (r := r) (by simp only [zeroW, Bool.or_eq_true]; exact .inl (.inl (.inr z0))))
    go_enter Tryz.func88, Tryz.ntmps88
    go_upto_region 1 with fail
    refine wp_region_calm ?_
    repeat (go_big_quiet_step (first | (exact Calls.calm (in_at (by assumption) _)) | (exact Calls.calm (Control2_at (by assumption) _))))
    refine wpQuiet_nil ?_
    go_wp2_with fail
    go_ret
    exact ⟨ret_i (by rw [Hs.out]; rfl), rfl⟩
  rw [Bool.not_eq_true] at z0
  by_cases z1 : inR r 8203 8205 = true
  · have Hs := Lib.hid (widC_zero (r := r) (by simp only [zeroW, Bool.or_eq_true]; exact .inl (.inr z1)))
    go_enter Tryz.func88, Tryz.ntmps88
    go_upto_region 1 with fail
    refine wp_region_calm ?_
    repeat (go_big_quiet_step (first | (exact Calls.calm (in_at (by assumption) _)) | (exact Calls.calm (Control2_at (by assumption) _))))
    refine wpQuiet_nil ?_
    go_wp2_with fail
    go_ret
    exact ⟨ret_i (by rw [Hs.out]; rfl), rfl⟩
  rw [Bool.not_eq_true] at z1
  by_cases z2 : inR r 65024 65039 = true
  · have Hs := Lib.hid (widC_zero (r := r) (by simp only [zeroW, Bool.or_eq_true]; exact .inr z2))
    go_enter Tryz.func88, Tryz.ntmps88
    go_upto_region 1 with fail
    refine wp_region_calm ?_
    repeat (go_big_quiet_step (first | (exact Calls.calm (in_at (by assumption) _)) | (exact Calls.calm (Control2_at (by assumption) _))))
    refine wpQuiet_nil ?_
    go_wp2_with fail
    go_ret
    exact ⟨ret_i (by rw [Hs.out]; rfl), rfl⟩
  rw [Bool.not_eq_true] at z2
  have hz : zeroW r = false := by simp only [zeroW, c0, z0, z1, z2, Bool.or_self]
  have Hz := Lib.hid hz
  clear hz
  by_cases w0 : inR r 4352 4447 = true
  · have Hs := Lib.hid (widC_two Hz.out (k := 0) (by omega) w0)
    go_enter Tryz.func88, Tryz.ntmps88
    go_upto_region 1 with fail
    refine wp_region_calm ?_
    repeat (go_big_quiet_step (first | (exact Calls.calm (in_at (by assumption) _)) | (exact Calls.calm (Control2_at (by assumption) _))))
    refine wpQuiet_nil ?_
    go_upto_region 3 with fail
    refine wp_region_calm ?_
    repeat (go_big_quiet_step (first | (exact Calls.calm (in_at (by assumption) _)) | (exact Calls.calm (Control2_at (by assumption) _))))
    refine wpQuiet_nil ?_
    go_wp2_with fail
    go_ret
    exact ⟨ret_i (by rw [Hs.out]; rfl), rfl⟩
  rw [Bool.not_eq_true] at w0
  by_cases w1 : inR r 11904 12350 = true
  · have Hs := Lib.hid (widC_two Hz.out (k := 1) (by omega) w1)
    go_enter Tryz.func88, Tryz.ntmps88
    go_upto_region 1 with fail
    refine wp_region_calm ?_
    repeat (go_big_quiet_step (first | (exact Calls.calm (in_at (by assumption) _)) | (exact Calls.calm (Control2_at (by assumption) _))))
    refine wpQuiet_nil ?_
    go_upto_region 3 with fail
    refine wp_region_calm ?_
    repeat (go_big_quiet_step (first | (exact Calls.calm (in_at (by assumption) _)) | (exact Calls.calm (Control2_at (by assumption) _))))
    refine wpQuiet_nil ?_
    go_wp2_with fail
    go_ret
    exact ⟨ret_i (by rw [Hs.out]; rfl), rfl⟩
  rw [Bool.not_eq_true] at w1
  by_cases w2 : inR r 12353 13311 = true
  · have Hs := Lib.hid (widC_two Hz.out (k := 2) (by omega) w2)
    go_enter Tryz.func88, Tryz.ntmps88
    go_upto_region 1 with fail
    refine wp_region_calm ?_
    repeat (go_big_quiet_step (first | (exact Calls.calm (in_at (by assumption) _)) | (exact Calls.calm (Control2_at (by assumption) _))))
    refine wpQuiet_nil ?_
    go_upto_region 3 with fail
    refine wp_region_calm ?_
    repeat (go_big_quiet_step (first | (exact Calls.calm (in_at (by assumption) _)) | (exact Calls.calm (Control2_at (by assumption) _))))
    refine wpQuiet_nil ?_
    go_wp2_with fail
    go_ret
    exact ⟨ret_i (by rw [Hs.out]; rfl), rfl⟩
  rw [Bool.not_eq_true] at w2
  by_cases w3 : inR r 13312 19903 = true
  · have Hs := Lib.hid (widC_two Hz.out (k := 3) (by omega) w3)
    go_enter Tryz.func88, Tryz.ntmps88
    go_upto_region 1 with fail
    refine wp_region_calm ?_
    repeat (go_big_quiet_step (first | (exact Calls.calm (in_at (by assumption) _)) | (exact Calls.calm (Control2_at (by assumption) _))))
    refine wpQuiet_nil ?_
    go_upto_region 3 with fail
    refine wp_region_calm ?_
    repeat (go_big_quiet_step (first | (exact Calls.calm (in_at (by assumption) _)) | (exact Calls.calm (Control2_at (by assumption) _))))
    refine wpQuiet_nil ?_
    go_wp2_with fail
    go_ret
    exact ⟨ret_i (by rw [Hs.out]; rfl), rfl⟩
  rw [Bool.not_eq_true] at w3
  by_cases w4 : inR r 19968 42191 = true
  · have Hs := Lib.hid (widC_two Hz.out (k := 4) (by omega) w4)
    go_enter Tryz.func88, Tryz.ntmps88
    go_upto_region 1 with fail
    refine wp_region_calm ?_
    repeat (go_big_quiet_step (first | (exact Calls.calm (in_at (by assumption) _)) | (exact Calls.calm (Control2_at (by assumption) _))))
    refine wpQuiet_nil ?_
    go_upto_region 3 with fail
    refine wp_region_calm ?_
    repeat (go_big_quiet_step (first | (exact Calls.calm (in_at (by assumption) _)) | (exact Calls.calm (Control2_at (by assumption) _))))
    refine wpQuiet_nil ?_
    go_wp2_with fail
    go_ret
    exact ⟨ret_i (by rw [Hs.out]; rfl), rfl⟩
  rw [Bool.not_eq_true] at w4
  by_cases w5 : inR r 44032 55203 = true
  · have Hs := Lib.hid (widC_two Hz.out (k := 5) (by omega) w5)
    go_enter Tryz.func88, Tryz.ntmps88
    go_upto_region 1 with fail
    refine wp_region_calm ?_
    repeat (go_big_quiet_step (first | (exact Calls.calm (in_at (by assumption) _)) | (exact Calls.calm (Control2_at (by assumption) _))))
    refine wpQuiet_nil ?_
    go_upto_region 3 with fail
    refine wp_region_calm ?_
    repeat (go_big_quiet_step (first | (exact Calls.calm (in_at (by assumption) _)) | (exact Calls.calm (Control2_at (by assumption) _))))
    refine wpQuiet_nil ?_
    go_wp2_with fail
    go_ret
    exact ⟨ret_i (by rw [Hs.out]; rfl), rfl⟩
  rw [Bool.not_eq_true] at w5
  by_cases w6 : inR r 63744 64255 = true
  · have Hs := Lib.hid (widC_two Hz.out (k := 6) (by omega) w6)
    go_enter Tryz.func88, Tryz.ntmps88
    go_upto_region 1 with fail
    refine wp_region_calm ?_
    repeat (go_big_quiet_step (first | (exact Calls.calm (in_at (by assumption) _)) | (exact Calls.calm (Control2_at (by assumption) _))))
    refine wpQuiet_nil ?_
    go_upto_region 3 with fail
    refine wp_region_calm ?_
    repeat (go_big_quiet_step (first | (exact Calls.calm (in_at (by assumption) _)) | (exact Calls.calm (Control2_at (by assumption) _))))
    refine wpQuiet_nil ?_
    go_upto_region 5 with fail
    refine wp_region_calm ?_
    repeat (go_big_quiet_step (first | (exact Calls.calm (in_at (by assumption) _)) | (exact Calls.calm (Control2_at (by assumption) _))))
    refine wpQuiet_nil ?_
    go_wp2_with fail
    go_ret
    exact ⟨ret_i (by rw [Hs.out]; rfl), rfl⟩
  rw [Bool.not_eq_true] at w6
  by_cases w7 : inR r 65072 65135 = true
  · have Hs := Lib.hid (widC_two Hz.out (k := 7) (by omega) w7)
    go_enter Tryz.func88, Tryz.ntmps88
    go_upto_region 1 with fail
    refine wp_region_calm ?_
    repeat (go_big_quiet_step (first | (exact Calls.calm (in_at (by assumption) _)) | (exact Calls.calm (Control2_at (by assumption) _))))
    refine wpQuiet_nil ?_
    go_upto_region 3 with fail
    refine wp_region_calm ?_
    repeat (go_big_quiet_step (first | (exact Calls.calm (in_at (by assumption) _)) | (exact Calls.calm (Control2_at (by assumption) _))))
    refine wpQuiet_nil ?_
    go_upto_region 5 with fail
    refine wp_region_calm ?_
    repeat (go_big_quiet_step (first | (exact Calls.calm (in_at (by assumption) _)) | (exact Calls.calm (Control2_at (by assumption) _))))
    refine wpQuiet_nil ?_
    go_wp2_with fail
    go_ret
    exact ⟨ret_i (by rw [Hs.out]; rfl), rfl⟩
  rw [Bool.not_eq_true] at w7
  by_cases w8 : inR r 65280 65376 = true
  · have Hs := Lib.hid (widC_two Hz.out (k := 8) (by omega) w8)
    go_enter Tryz.func88, Tryz.ntmps88
    go_upto_region 1 with fail
    refine wp_region_calm ?_
    repeat (go_big_quiet_step (first | (exact Calls.calm (in_at (by assumption) _)) | (exact Calls.calm (Control2_at (by assumption) _))))
    refine wpQuiet_nil ?_
    go_upto_region 3 with fail
    refine wp_region_calm ?_
    repeat (go_big_quiet_step (first | (exact Calls.calm (in_at (by assumption) _)) | (exact Calls.calm (Control2_at (by assumption) _))))
    refine wpQuiet_nil ?_
    go_upto_region 5 with fail
    refine wp_region_calm ?_
    repeat (go_big_quiet_step (first | (exact Calls.calm (in_at (by assumption) _)) | (exact Calls.calm (Control2_at (by assumption) _))))
    refine wpQuiet_nil ?_
    go_wp2_with fail
    go_ret
    exact ⟨ret_i (by rw [Hs.out]; rfl), rfl⟩
  rw [Bool.not_eq_true] at w8
  by_cases w9 : inR r 65504 65510 = true
  · have Hs := Lib.hid (widC_two Hz.out (k := 9) (by omega) w9)
    go_enter Tryz.func88, Tryz.ntmps88
    go_upto_region 1 with fail
    refine wp_region_calm ?_
    repeat (go_big_quiet_step (first | (exact Calls.calm (in_at (by assumption) _)) | (exact Calls.calm (Control2_at (by assumption) _))))
    refine wpQuiet_nil ?_
    go_upto_region 3 with fail
    refine wp_region_calm ?_
    repeat (go_big_quiet_step (first | (exact Calls.calm (in_at (by assumption) _)) | (exact Calls.calm (Control2_at (by assumption) _))))
    refine wpQuiet_nil ?_
    go_upto_region 5 with fail
    refine wp_region_calm ?_
    repeat (go_big_quiet_step (first | (exact Calls.calm (in_at (by assumption) _)) | (exact Calls.calm (Control2_at (by assumption) _))))
    refine wpQuiet_nil ?_
    go_wp2_with fail
    go_ret
    exact ⟨ret_i (by rw [Hs.out]; rfl), rfl⟩
  rw [Bool.not_eq_true] at w9
  by_cases w10 : inR r 127744 128591 = true
  · have Hs := Lib.hid (widC_two Hz.out (k := 10) (by omega) w10)
    go_enter Tryz.func88, Tryz.ntmps88
    go_upto_region 1 with fail
    refine wp_region_calm ?_
    repeat (go_big_quiet_step (first | (exact Calls.calm (in_at (by assumption) _)) | (exact Calls.calm (Control2_at (by assumption) _))))
    refine wpQuiet_nil ?_
    go_upto_region 3 with fail
    refine wp_region_calm ?_
    repeat (go_big_quiet_step (first | (exact Calls.calm (in_at (by assumption) _)) | (exact Calls.calm (Control2_at (by assumption) _))))
    refine wpQuiet_nil ?_
    go_upto_region 5 with fail
    refine wp_region_calm ?_
    repeat (go_big_quiet_step (first | (exact Calls.calm (in_at (by assumption) _)) | (exact Calls.calm (Control2_at (by assumption) _))))
    refine wpQuiet_nil ?_
    go_wp2_with fail
    go_ret
    exact ⟨ret_i (by rw [Hs.out]; rfl), rfl⟩
  rw [Bool.not_eq_true] at w10
  by_cases w11 : inR r 129280 129535 = true
  · have Hs := Lib.hid (widC_two Hz.out (k := 11) (by omega) w11)
    go_enter Tryz.func88, Tryz.ntmps88
    go_upto_region 1 with fail
    refine wp_region_calm ?_
    repeat (go_big_quiet_step (first | (exact Calls.calm (in_at (by assumption) _)) | (exact Calls.calm (Control2_at (by assumption) _))))
    refine wpQuiet_nil ?_
    go_upto_region 3 with fail
    refine wp_region_calm ?_
    repeat (go_big_quiet_step (first | (exact Calls.calm (in_at (by assumption) _)) | (exact Calls.calm (Control2_at (by assumption) _))))
    refine wpQuiet_nil ?_
    go_upto_region 5 with fail
    refine wp_region_calm ?_
    repeat (go_big_quiet_step (first | (exact Calls.calm (in_at (by assumption) _)) | (exact Calls.calm (Control2_at (by assumption) _))))
    refine wpQuiet_nil ?_
    go_wp2_with fail
    go_ret
    exact ⟨ret_i (by rw [Hs.out]; rfl), rfl⟩
  rw [Bool.not_eq_true] at w11
  by_cases w12 : inR r 131072 262141 = true
  · have Hs := Lib.hid (widC_two Hz.out (k := 12) (by omega) w12)
    go_enter Tryz.func88, Tryz.ntmps88
    go_upto_region 1 with fail
    refine wp_region_calm ?_
    repeat (go_big_quiet_step (first | (exact Calls.calm (in_at (by assumption) _)) | (exact Calls.calm (Control2_at (by assumption) _))))
    refine wpQuiet_nil ?_
    go_upto_region 3 with fail
    refine wp_region_calm ?_
    repeat (go_big_quiet_step (first | (exact Calls.calm (in_at (by assumption) _)) | (exact Calls.calm (Control2_at (by assumption) _))))
    refine wpQuiet_nil ?_
    go_upto_region 5 with fail
    refine wp_region_calm ?_
    repeat (go_big_quiet_step (first | (exact Calls.calm (in_at (by assumption) _)) | (exact Calls.calm (Control2_at (by assumption) _))))
    refine wpQuiet_nil ?_
    go_wp2_with fail
    go_ret
    exact ⟨ret_i (by rw [Hs.out]; rfl), rfl⟩
  rw [Bool.not_eq_true] at w12
  have Hs := Lib.hid (widC_one Hz.out (fun k hk => by
    rcases (by omega : k = 0 ∨ k = 1 ∨ k = 2 ∨ k = 3 ∨ k = 4 ∨ k = 5 ∨ k = 6 ∨ k = 7 ∨ k = 8 ∨ k = 9 ∨ k = 10 ∨ k = 11 ∨ k = 12) with rfl | rfl | rfl | rfl | rfl | rfl | rfl | rfl | rfl | rfl | rfl | rfl | rfl
    · exact w0
    · exact w1
    · exact w2
    · exact w3
    · exact w4
    · exact w5
    · exact w6
    · exact w7
    · exact w8
    · exact w9
    · exact w10
    · exact w11
    · exact w12))
  go_enter Tryz.func88, Tryz.ntmps88
  go_upto_region 1 with fail
  refine wp_region_calm ?_
  repeat (go_big_quiet_step (first | (exact Calls.calm (in_at (by assumption) _)) | (exact Calls.calm (Control2_at (by assumption) _))))
  refine wpQuiet_nil ?_
  go_upto_region 3 with fail
  refine wp_region_calm ?_
  repeat (go_big_quiet_step (first | (exact Calls.calm (in_at (by assumption) _)) | (exact Calls.calm (Control2_at (by assumption) _))))
  refine wpQuiet_nil ?_
  go_upto_region 5 with fail
  refine wp_region_calm ?_
  repeat (go_big_quiet_step (first | (exact Calls.calm (in_at (by assumption) _)) | (exact Calls.calm (Control2_at (by assumption) _))))
  refine wpQuiet_nil ?_
  go_wp2_with fail
  go_ret
  exact ⟨ret_i (by rw [Hs.out]; rfl), rfl⟩
end Go.Proofs.YtpifkinlaicliaaGreatDoor
