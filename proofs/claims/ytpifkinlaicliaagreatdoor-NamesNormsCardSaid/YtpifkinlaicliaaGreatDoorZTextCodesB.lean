/-
  TEXT, CODES A: widths, small letters, bases.
-/
import Derived.Test.YtpifkinlaicliaaGreatDoorZQuiet
import Derived.BigQuiet
import Derived.Deep.DeepCutAuto
namespace Go.Proofs.YtpifkinlaicliaaGreatDoor
open Go.RowKit
attribute [local go_sem] Old.refl Old.alloc Old.drew Old.setCell OldW.old

def inR (r lo hi : Int) : Bool := decide (lo ≤ r) && decide (r ≤ hi)
theorem inR_iff {r lo hi : Int} : inR r lo hi = true ↔ lo ≤ r ∧ r ≤ hi := by simp [inR]
theorem inR_not {r lo hi : Int} : inR r lo hi = false ↔ r < lo ∨ hi < r := by
  rw [← Bool.not_eq_true, inR_iff]; omega
/-- the small letter -/
def smallC (r : Int) : Int :=
  if (65 ≤ r ∧ r ≤ 90) ∨ (192 ≤ r ∧ r ≤ 222 ∧ ¬ r = 215) ∨ (913 ≤ r ∧ r ≤ 937 ∧ ¬ r = 930) ∨ (1040 ≤ r ∧ r ≤ 1071) then r + 32 else if 1024 ≤ r ∧ r ≤ 1039 then r + 80 else r
theorem smallC_bounds {r : Int} (hr : -2147483648 ≤ r ∧ r ≤ 2147483647) : -2147483648 ≤ smallC r ∧ smallC r ≤ 2147483647 := by
  unfold smallC; split <;> first | omega | (split <;> omega)
theorem ret_i32 {a b : Int} (h : a = b) : Ending.returned (.int .i32 a) = .returned (.int .i32 b) := by rw [h]
theorem Small_any (r : Int) (w : World) (hr : -2147483648 ≤ r ∧ r ≤ 2147483647) :
    Calls Tryz.prog 50 #[.int .i32 r] w fun e w' => e = .returned (.int .i32 (smallC r)) ∧ w = w' := by
  go_enter Tryz.func50, Tryz.ntmps50
  go_wp2
  all_goals
    go_ret
    refine ⟨ret_i32 ?_, rfl⟩
    (try simp only [bne_iff_ne, ne_eq, bne_eq_false_iff_eq] at *)
    unfold smallC
    first
      | rw [if_pos (by omega)]
      | rw [if_neg (by omega), if_pos (by omega)]
      | rw [if_neg (by omega), if_neg (by omega)]
theorem in_any (r lo hi : Int) (w : World) :
    Calls Tryz.prog 87 #[.int .i32 r, .int .i32 lo, .int .i32 hi] w fun e w' => e = .returned (.bool (inR r lo hi)) ∧ w = w' := by
  by_cases h : lo ≤ r
  · have hd : decide (lo ≤ r) = true := by simpa using h
    have Hv := Lib.hid (show inR r lo hi = decide (r ≤ hi) from by unfold inR; rw [hd, Bool.true_and])
    go_enter Tryz.func87, Tryz.ntmps87
    go_wp2
    all_goals first
      | (exfalso; omega)
      | (go_ret; exact ⟨ret_bool Hv.out.symm, rfl⟩)
  · have hd : decide (lo ≤ r) = false := by simpa using h
    have Hv := Lib.hid (show inR r lo hi = false from by unfold inR; rw [hd, Bool.false_and])
    go_enter Tryz.func87, Tryz.ntmps87
    go_wp2
    all_goals first
      | (exfalso; omega)
      | (go_ret; exact ⟨ret_bool Hv.out.symm, rfl⟩)
theorem in_at {r lo hi : Int} {b : Bool} (h : inR r lo hi = b) (w : World) :
    Calls Tryz.prog 87 #[.int .i32 r, .int .i32 lo, .int .i32 hi] w fun e w' => e = .returned (.bool b) ∧ w = w' := by
  subst h; exact in_any r lo hi w
set_option maxRecDepth 100000 in
set_option maxHeartbeats 3200000 in
theorem RSmall_any (r : Int) (w : World) (hr : -2147483648 ≤ r ∧ r ≤ 2147483647) :
    Calls Tryz.prog 69 #[.int .i32 r] w fun e w' => e = .returned (.int .i32 (smallC r)) ∧ w = w' := by
  by_cases c0 : 65 ≤ r ∧ r ≤ 90
  · have h0 : inR r 65 90 = true := inR_iff.2 (by omega)
    have Hs := Lib.hid (show r + 32 = smallC r from by unfold smallC; rw [if_pos (by omega)])
    have hb : -2147483648 ≤ r ∧ r ≤ 2147480000 := by omega
    clear c0
    go_enter Tryz.func69, Tryz.ntmps69
    go_upto_region 1 with fail
    refine wp_region_calm ?_
    repeat (go_big_quiet_step (exact Calls.calm (in_at (by assumption) _)))
    refine wpQuiet_nil ?_
    go_wp2_with (go_at_call 87; refine (in_at (by assumption) _).mono ?_; rintro e w1 ⟨rfl, rfl⟩)
    go_ret
    exact ⟨ret_i32 Hs.out, rfl⟩
  by_cases c1 : 192 ≤ r ∧ r ≤ 222 ∧ ¬ r = 215
  · have h0 : inR r 65 90 = false := inR_not.2 (by omega)
    have h1 : inR r 192 222 = true := inR_iff.2 (by omega)
    have n1 : (r != 215) = true := by simp; omega
    have Hs := Lib.hid (show r + 32 = smallC r from by unfold smallC; rw [if_pos (by omega)])
    have hb : -2147483648 ≤ r ∧ r ≤ 2147480000 := by omega
    clear c0 c1
    go_enter Tryz.func69, Tryz.ntmps69
    go_upto_region 1 with fail
    refine wp_region_calm ?_
    repeat (go_big_quiet_step (exact Calls.calm (in_at (by assumption) _)))
    refine wpQuiet_nil ?_
    go_wp2_with (go_at_call 87; refine (in_at (by assumption) _).mono ?_; rintro e w1 ⟨rfl, rfl⟩)
    go_ret
    exact ⟨ret_i32 Hs.out, rfl⟩
  by_cases c2 : r = 215
  · have h0 : inR r 65 90 = false := inR_not.2 (by omega)
    have h1 : inR r 192 222 = true := inR_iff.2 (by omega)
    have n1 : (r != 215) = false := by simp; omega
    have h2 : inR r 913 937 = false := inR_not.2 (by omega)
    have h3 : inR r 1040 1071 = false := inR_not.2 (by omega)
    have h4 : inR r 1024 1039 = false := inR_not.2 (by omega)
    have Hs := Lib.hid (show r = smallC r from by unfold smallC; rw [if_neg (by omega), if_neg (by omega)])
    clear c0 c1 c2
    go_enter Tryz.func69, Tryz.ntmps69
    go_upto_region 1 with fail
    refine wp_region_calm ?_
    repeat (go_big_quiet_step (exact Calls.calm (in_at (by assumption) _)))
    refine wpQuiet_nil ?_
    go_wp2_with (go_at_call 87; refine (in_at (by assumption) _).mono ?_; rintro e w1 ⟨rfl, rfl⟩)
    go_ret
    exact ⟨ret_i32 Hs.out, rfl⟩
  by_cases c3 : 913 ≤ r ∧ r ≤ 937 ∧ ¬ r = 930
  · have h0 : inR r 65 90 = false := inR_not.2 (by omega)
    have h1 : inR r 192 222 = false := inR_not.2 (by omega)
    have h2 : inR r 913 937 = true := inR_iff.2 (by omega)
    have n2 : (r != 930) = true := by simp; omega
    have Hs := Lib.hid (show r + 32 = smallC r from by unfold smallC; rw [if_pos (by omega)])
    have hb : -2147483648 ≤ r ∧ r ≤ 2147480000 := by omega
    clear c0 c1 c2 c3
    go_enter Tryz.func69, Tryz.ntmps69
    go_upto_region 1 with fail
    refine wp_region_calm ?_
    repeat (go_big_quiet_step (exact Calls.calm (in_at (by assumption) _)))
    refine wpQuiet_nil ?_
    go_wp2_with (go_at_call 87; refine (in_at (by assumption) _).mono ?_; rintro e w1 ⟨rfl, rfl⟩)
    go_ret
    exact ⟨ret_i32 Hs.out, rfl⟩
  by_cases c4 : r = 930
  · have h0 : inR r 65 90 = false := inR_not.2 (by omega)
    have h1 : inR r 192 222 = false := inR_not.2 (by omega)
    have h2 : inR r 913 937 = true := inR_iff.2 (by omega)
    have n2 : (r != 930) = false := by simp; omega
    have h3 : inR r 1040 1071 = false := inR_not.2 (by omega)
    have h4 : inR r 1024 1039 = false := inR_not.2 (by omega)
    have Hs := Lib.hid (show r = smallC r from by unfold smallC; rw [if_neg (by omega), if_neg (by omega)])
    clear c0 c1 c2 c3 c4
    go_enter Tryz.func69, Tryz.ntmps69
    go_upto_region 1 with fail
    refine wp_region_calm ?_
    repeat (go_big_quiet_step (exact Calls.calm (in_at (by assumption) _)))
    refine wpQuiet_nil ?_
    go_wp2_with (go_at_call 87; refine (in_at (by assumption) _).mono ?_; rintro e w1 ⟨rfl, rfl⟩)
    go_ret
    exact ⟨ret_i32 Hs.out, rfl⟩
  by_cases c5 : 1040 ≤ r ∧ r ≤ 1071
  · have h0 : inR r 65 90 = false := inR_not.2 (by omega)
    have h1 : inR r 192 222 = false := inR_not.2 (by omega)
    have h2 : inR r 913 937 = false := inR_not.2 (by omega)
    have h3 : inR r 1040 1071 = true := inR_iff.2 (by omega)
    have Hs := Lib.hid (show r + 32 = smallC r from by unfold smallC; rw [if_pos (by omega)])
    have hb : -2147483648 ≤ r ∧ r ≤ 2147480000 := by omega
    clear c0 c1 c2 c3 c4 c5
    go_enter Tryz.func69, Tryz.ntmps69
    go_upto_region 1 with fail
    refine wp_region_calm ?_
    repeat (go_big_quiet_step (exact Calls.calm (in_at (by assumption) _)))
    refine wpQuiet_nil ?_
    go_wp2_with (go_at_call 87; refine (in_at (by assumption) _).mono ?_; rintro e w1 ⟨rfl, rfl⟩)
    go_ret
    exact ⟨ret_i32 Hs.out, rfl⟩
  by_cases c6 : 1024 ≤ r ∧ r ≤ 1039
  · have h0 : inR r 65 90 = false := inR_not.2 (by omega)
    have h1 : inR r 192 222 = false := inR_not.2 (by omega)
    have h2 : inR r 913 937 = false := inR_not.2 (by omega)
    have h3 : inR r 1040 1071 = false := inR_not.2 (by omega)
    have h4 : inR r 1024 1039 = true := inR_iff.2 (by omega)
    have Hs := Lib.hid (show r + 80 = smallC r from by unfold smallC; rw [if_neg (by omega), if_pos (by omega)])
    have hb : -2147483648 ≤ r ∧ r ≤ 2147480000 := by omega
    clear c0 c1 c2 c3 c4 c5 c6
    go_enter Tryz.func69, Tryz.ntmps69
    go_upto_region 1 with fail
    refine wp_region_calm ?_
    repeat (go_big_quiet_step (exact Calls.calm (in_at (by assumption) _)))
    refine wpQuiet_nil ?_
    go_wp2_with (go_at_call 87; refine (in_at (by assumption) _).mono ?_; rintro e w1 ⟨rfl, rfl⟩)
    go_ret
    exact ⟨ret_i32 Hs.out, rfl⟩
  have h0 : inR r 65 90 = false := inR_not.2 (by omega)
  have h1 : inR r 192 222 = false := inR_not.2 (by omega)
  have h2 : inR r 913 937 = false := inR_not.2 (by omega)
  have h3 : inR r 1040 1071 = false := inR_not.2 (by omega)
  have h4 : inR r 1024 1039 = false := inR_not.2 (by omega)
  have Hs := Lib.hid (show r = smallC r from by unfold smallC; rw [if_neg (by omega), if_neg (by omega)])
  clear c0 c1 c2 c3 c4 c5 c6
  go_enter Tryz.func69, Tryz.ntmps69
  go_upto_region 1 with fail
  refine wp_region_calm ?_
  repeat (go_big_quiet_step (exact Calls.calm (in_at (by assumption) _)))
  refine wpQuiet_nil ?_
  go_wp2_with (go_at_call 87; refine (in_at (by assumption) _).mono ?_; rintro e w1 ⟨rfl, rfl⟩)
  go_ret
  exact ⟨ret_i32 Hs.out, rfl⟩
end Go.Proofs.YtpifkinlaicliaaGreatDoor
/-
  TEXT, CODES B: bases, widths.
-/

namespace Go.Proofs.YtpifkinlaicliaaGreatDoor
open Go.RowKit
attribute [local go_sem] Old.refl Old.alloc Old.drew Old.setCell OldW.old

/-- what a small letter counts as -/
def baseS (s : Int) : ByteArray :=
  if 224 ≤ s ∧ s ≤ 229 then ⟨#[97]⟩ else if s = 230 then ⟨#[97, 101]⟩ else if s = 231 then ⟨#[99]⟩ else if 232 ≤ s ∧ s ≤ 235 then ⟨#[101]⟩ else if 236 ≤ s ∧ s ≤ 239 then ⟨#[105]⟩
  else if s = 240 then ⟨#[100]⟩ else if s = 241 then ⟨#[110]⟩ else if (242 ≤ s ∧ s ≤ 246) ∨ s = 248 then ⟨#[111]⟩ else if 249 ≤ s ∧ s ≤ 252 then ⟨#[117]⟩ else if s = 253 ∨ s = 255 then ⟨#[121]⟩
  else if s = 254 then ⟨#[116, 104]⟩ else if s = 223 then ⟨#[115, 115]⟩ else Utf8.encode s
def baseC (r : Int) : ByteArray := baseS (smallC r)
theorem ret_str {a b : ByteArray} (h : a = b) : Ending.returned (.string a) = .returned (.string b) := by rw [h]
set_option maxRecDepth 100000 in
set_option maxHeartbeats 3200000 in
theorem Base_any (r : Int) (w : World) (hr : -2147483648 ≤ r ∧ r ≤ 2147483647) :
    Calls Tryz.prog 102 #[.int .i32 r] w fun e w' => e = .returned (.string (baseC r)) ∧ w = w' := by
  have hs := smallC_bounds hr
  have HS := Lib.hid (fun w => Small_any r w hr)
  unfold baseC
  generalize smallC r = s at *
  clear hr
  go_enter Tryz.func102, Tryz.ntmps102
  go_wp2_with (go_at_call 50; refine (HS.out _).mono ?_; rintro e w1 ⟨rfl, rfl⟩)
  all_goals
    go_ret
    refine ⟨ret_str ?_, rfl⟩
    (try simp only [beq_iff_eq, beq_eq_false_iff_ne, ne_eq] at *)
    unfold baseS
    repeat (first | rw [if_pos (by omega)] | rw [if_neg (by omega)])
set_option maxRecDepth 100000 in
set_option maxHeartbeats 3200000 in
theorem RBase_any (r : Int) (w : World) (hr : -2147483648 ≤ r ∧ r ≤ 2147483647) :
    Calls Tryz.prog 89 #[.int .i32 r] w fun e w' => e = .returned (.string (baseC r)) ∧ w = w' := by
  have hs := smallC_bounds hr
  have HS := Lib.hid (fun w => RSmall_any r w hr)
  unfold baseC
  generalize smallC r = s at *
  have HI := Lib.hid (in_any s)
  clear hr
  go_enter Tryz.func89, Tryz.ntmps89
  go_wp2_with (first
    | (go_at_call 69; refine (HS.out _).mono ?_; rintro e w1 ⟨rfl, rfl⟩)
    | (go_at_call 87; refine (HI.out _ _ _).mono ?_; rintro e w1 ⟨rfl, rfl⟩))
  all_goals
    go_ret
    refine ⟨ret_str ?_, rfl⟩
    (try simp only [beq_iff_eq, beq_eq_false_iff_ne, ne_eq, inR_iff, inR_not] at *)
    unfold baseS
    repeat (first | rw [if_pos (by omega)] | rw [if_neg (by omega)])
end Go.Proofs.YtpifkinlaicliaaGreatDoor
