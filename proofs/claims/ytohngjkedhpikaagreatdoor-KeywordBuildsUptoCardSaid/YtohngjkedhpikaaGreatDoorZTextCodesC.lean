/-
  TEXT, CODES A: widths, small letters, bases.
-/
import Derived.Test.YtohngjkedhpikaaGreatDoorZQuiet
import Derived.BigQuiet
import Derived.Deep.DeepCutAuto
import Derived.Deep.WholeRow
import Derived.Great.BuildSlice
namespace Go.Proofs.YtohngjkedhpikaaGreatDoor
open Go.RowKit
attribute [local go_sem] Old.refl Old.alloc Old.drew Old.setCell OldW.old

def inR (r lo hi : Int) : Bool := decide (lo ≤ r) && decide (r ≤ hi)
theorem inR_iff {r lo hi : Int} : inR r lo hi = true ↔ lo ≤ r ∧ r ≤ hi := by simp [inR]
theorem inR_not {r lo hi : Int} : inR r lo hi = false ↔ r < lo ∨ hi < r := by
  rw [← Bool.not_eq_true, inR_iff]; omega
/-- the small letter -/
def smallC (r : Int) : Int :=
  if (65 ≤ r ∧ r ≤ 90) ∨ (192 ≤ r ∧ r ≤ 222 ∧ ¬ r = 215) ∨ (913 ≤ r ∧ r ≤ 937 ∧ ¬ r = 930) ∨ (1040 ≤ r ∧ r ≤ 1071) then r + 32 else if 1024 ≤ r ∧ r ≤ 1039 then r + 80 else r
theorem smallC_bounds {r : Int} (hr : -2147483648 ≤ r ∧ r ≤ 2147483647) : -2147483648 ≤ smallC r ∧ smallC r ≤ 2147483647 := by
  unfold smallC; split <;> first | omega | (split <;> omega)
theorem ret_i32 {a b : Int} (h : a = b) : Ending.returned (.int .i32 a) = .returned (.int .i32 b) := by rw [h]
theorem Small_any (r : Int) (w : World) (hr : -2147483648 ≤ r ∧ r ≤ 2147483647) :
    Calls Tryz.prog 93 #[.int .i32 r] w fun e w' => e = .returned (.int .i32 (smallC r)) ∧ w = w' := by
  go_enter Tryz.func93, Tryz.ntmps93
  go_wp2
  all_goals
    go_ret
    refine ⟨ret_i32 ?_, rfl⟩
    (try simp only [bne_iff_ne, ne_eq, bne_eq_false_iff_eq] at *)
    unfold smallC
    first
      | rw [if_pos (by omega)]
      | rw [if_neg (by omega), if_pos (by omega)]
      | rw [if_neg (by omega), if_neg (by omega)]
theorem in_any (r lo hi : Int) (w : World) :
    Calls Tryz.prog 96 #[.int .i32 r, .int .i32 lo, .int .i32 hi] w fun e w' => e = .returned (.bool (inR r lo hi)) ∧ w = w' := by
  by_cases h : lo ≤ r
  · have hd : decide (lo ≤ r) = true := by simpa using h
    have Hv := Lib.hid (show inR r lo hi = decide (r ≤ hi) from by unfold inR; rw [hd, Bool.true_and])
    go_enter Tryz.func96, Tryz.ntmps96
    go_wp2
    all_goals first
      | (exfalso; omega)
      | (go_ret; exact ⟨ret_bool Hv.out.symm, rfl⟩)
  · have hd : decide (lo ≤ r) = false := by simpa using h
    have Hv := Lib.hid (show inR r lo hi = false from by unfold inR; rw [hd, Bool.false_and])
    go_enter Tryz.func96, Tryz.ntmps96
    go_wp2
    all_goals first
      | (exfalso; omega)
      | (go_ret; exact ⟨ret_bool Hv.out.symm, rfl⟩)
theorem in_at {r lo hi : Int} {b : Bool} (h : inR r lo hi = b) (w : World) :
    Calls Tryz.prog 96 #[.int .i32 r, .int .i32 lo, .int .i32 hi] w fun e w' => e = .returned (.bool b) ∧ w = w' := by
  subst h; exact in_any r lo hi w
set_option maxRecDepth 100000 in
set_option maxHeartbeats 3200000 in
theorem RSmall_any (r : Int) (w : World) (hr : -2147483648 ≤ r ∧ r ≤ 2147483647) :
    Calls Tryz.prog 50 #[.int .i32 r] w fun e w' => e = .returned (.int .i32 (smallC r)) ∧ w = w' := by
  by_cases c0 : 65 ≤ r ∧ r ≤ 90
  · have h0 : inR r 65 90 = true := inR_iff.2 (by omega)
    have Hs := Lib.hid (show r + 32 = smallC r from by unfold smallC; rw [if_pos (by omega)])
    have hb : -2147483648 ≤ r ∧ r ≤ 2147480000 := by omega
    clear c0
    go_enter Tryz.func50, Tryz.ntmps50
    go_upto_region 1 with fail
    refine wp_region_calm ?_
    repeat (go_big_quiet_step (exact Calls.calm (in_at (by assumption) _)))
    refine wpQuiet_nil ?_
    go_wp2_with (go_at_call 96; refine (in_at (by assumption) _).mono ?_; rintro e w1 ⟨rfl, rfl⟩)
    go_ret
    exact ⟨ret_i32 Hs.out, rfl⟩
  by_cases c1 : 192 ≤ r ∧ r ≤ 222 ∧ ¬ r = 215
  · have h0 : inR r 65 90 = false := inR_not.2 (by omega)
    have h1 : inR r 192 222 = true := inR_iff.2 (by omega)
    have n1 : (r != 215) = true := by simp; omega
    have Hs := Lib.hid (show r + 32 = smallC r from by unfold smallC; rw [if_pos (by omega)])
    have hb : -2147483648 ≤ r ∧ r ≤ 2147480000 := by omega
    clear c0 c1
    go_enter Tryz.func50, Tryz.ntmps50
    go_upto_region 1 with fail
    refine wp_region_calm ?_
    repeat (go_big_quiet_step (exact Calls.calm (in_at (by assumption) _)))
    refine wpQuiet_nil ?_
    go_wp2_with (go_at_call 96; refine (in_at (by assumption) _).mono ?_; rintro e w1 ⟨rfl, rfl⟩)
    go_ret
    exact ⟨ret_i32 Hs.out, rfl⟩
  by_cases c2 : r = 215
  · have h0 : inR r 65 90 = false := inR_not.2 (by omega)
    have h1 : inR r 192 222 = true := inR_iff.2 (by omega)
    have n1 : (r != 215) = false := by simp; omega
    have h2 : inR r 913 937 = false := inR_not.2 (by omega)
    have h3 : inR r 1040 1071 = false := inR_not.2 (by omega)
    have h4 : inR r 1024 1039 = false := inR_not.2 (by omega)
    have Hs := Lib.hid (show r = smallC r from by unfold smallC; rw [if_neg (by omega), if_neg (by omega)])
    clear c0 c1 c2
    go_enter Tryz.func50, Tryz.ntmps50
    go_upto_region 1 with fail
    refine wp_region_calm ?_
    repeat (go_big_quiet_step (exact Calls.calm (in_at (by assumption) _)))
    refine wpQuiet_nil ?_
    go_wp2_with (go_at_call 96; refine (in_at (by assumption) _).mono ?_; rintro e w1 ⟨rfl, rfl⟩)
    go_ret
    exact ⟨ret_i32 Hs.out, rfl⟩
  by_cases c3 : 913 ≤ r ∧ r ≤ 937 ∧ ¬ r = 930
  · have h0 : inR r 65 90 = false := inR_not.2 (by omega)
    have h1 : inR r 192 222 = false := inR_not.2 (by omega)
    have h2 : inR r 913 937 = true := inR_iff.2 (by omega)
    have n2 : (r != 930) = true := by simp; omega
    have Hs := Lib.hid (show r + 32 = smallC r from by unfold smallC; rw [if_pos (by omega)])
    have hb : -2147483648 ≤ r ∧ r ≤ 2147480000 := by omega
    clear c0 c1 c2 c3
    go_enter Tryz.func50, Tryz.ntmps50
    go_upto_region 1 with fail
    refine wp_region_calm ?_
    repeat (go_big_quiet_step (exact Calls.calm (in_at (by assumption) _)))
    refine wpQuiet_nil ?_
    go_wp2_with (go_at_call 96; refine (in_at (by assumption) _).mono ?_; rintro e w1 ⟨rfl, rfl⟩)
    go_ret
    exact ⟨ret_i32 Hs.out, rfl⟩
  by_cases c4 : r = 930
  · have h0 : inR r 65 90 = false := inR_not.2 (by omega)
    have h1 : inR r 192 222 = false := inR_not.2 (by omega)
    have h2 : inR r 913 937 = true := inR_iff.2 (by omega)
    have n2 : (r != 930) = false := by simp; omega
    have h3 : inR r 1040 1071 = false := inR_not.2 (by omega)
    have h4 : inR r 1024 1039 = false := inR_not.2 (by omega)
    have Hs := Lib.hid (show r = smallC r from by unfold smallC; rw [if_neg (by omega), if_neg (by omega)])
    clear c0 c1 c2 c3 c4
    go_enter Tryz.func50, Tryz.ntmps50
    go_upto_region 1 with fail
    refine wp_region_calm ?_
    repeat (go_big_quiet_step (exact Calls.calm (in_at (by assumption) _)))
    refine wpQuiet_nil ?_
    go_wp2_with (go_at_call 96; refine (in_at (by assumption) _).mono ?_; rintro e w1 ⟨rfl, rfl⟩)
    go_ret
    exact ⟨ret_i32 Hs.out, rfl⟩
  by_cases c5 : 1040 ≤ r ∧ r ≤ 1071
  · have h0 : inR r 65 90 = false := inR_not.2 (by omega)
    have h1 : inR r 192 222 = false := inR_not.2 (by omega)
    have h2 : inR r 913 937 = false := inR_not.2 (by omega)
    have h3 : inR r 1040 1071 = true := inR_iff.2 (by omega)
    have Hs := Lib.hid (show r + 32 = smallC r from by unfold smallC; rw [if_pos (by omega)])
    have hb : -2147483648 ≤ r ∧ r ≤ 2147480000 := by omega
    clear c0 c1 c2 c3 c4 c5
    go_enter Tryz.func50, Tryz.ntmps50
    go_upto_region 1 with fail
    refine wp_region_calm ?_
    repeat (go_big_quiet_step (exact Calls.calm (in_at (by assumption) _)))
    refine wpQuiet_nil ?_
    go_wp2_with (go_at_call 96; refine (in_at (by assumption) _).mono ?_; rintro e w1 ⟨rfl, rfl⟩)
    go_ret
    exact ⟨ret_i32 Hs.out, rfl⟩
  by_cases c6 : 1024 ≤ r ∧ r ≤ 1039
  · have h0 : inR r 65 90 = false := inR_not.2 (by omega)
    have h1 : inR r 192 222 = false := inR_not.2 (by omega)
    have h2 : inR r 913 937 = false := inR_not.2 (by omega)
    have h3 : inR r 1040 1071 = false := inR_not.2 (by omega)
    have h4 : inR r 1024 1039 = true := inR_iff.2 (by omega)
    have Hs := Lib.hid (show r + 80 = smallC r from by unfold smallC; rw [if_neg (by omega), if_pos (by omega)])
    have hb : -2147483648 ≤ r ∧ r ≤ 2147480000 := by omega
    clear c0 c1 c2 c3 c4 c5 c6
    go_enter Tryz.func50, Tryz.ntmps50
    go_upto_region 1 with fail
    refine wp_region_calm ?_
    repeat (go_big_quiet_step (exact Calls.calm (in_at (by assumption) _)))
    refine wpQuiet_nil ?_
    go_wp2_with (go_at_call 96; refine (in_at (by assumption) _).mono ?_; rintro e w1 ⟨rfl, rfl⟩)
    go_ret
    exact ⟨ret_i32 Hs.out, rfl⟩
  have h0 : inR r 65 90 = false := inR_not.2 (by omega)
  have h1 : inR r 192 222 = false := inR_not.2 (by omega)
  have h2 : inR r 913 937 = false := inR_not.2 (by omega)
  have h3 : inR r 1040 1071 = false := inR_not.2 (by omega)
  have h4 : inR r 1024 1039 = false := inR_not.2 (by omega)
  have Hs := Lib.hid (show r = smallC r from by unfold smallC; rw [if_neg (by omega), if_neg (by omega)])
  clear c0 c1 c2 c3 c4 c5 c6
  go_enter Tryz.func50, Tryz.ntmps50
  go_upto_region 1 with fail
  refine wp_region_calm ?_
  repeat (go_big_quiet_step (exact Calls.calm (in_at (by assumption) _)))
  refine wpQuiet_nil ?_
  go_wp2_with (go_at_call 96; refine (in_at (by assumption) _).mono ?_; rintro e w1 ⟨rfl, rfl⟩)
  go_ret
  exact ⟨ret_i32 Hs.out, rfl⟩
end Go.Proofs.YtohngjkedhpikaaGreatDoor
/-
  TEXT, CODES B: bases, widths.
-/

namespace Go.Proofs.YtohngjkedhpikaaGreatDoor
open Go.RowKit
attribute [local go_sem] Old.refl Old.alloc Old.drew Old.setCell OldW.old

/-- what a small letter counts as -/
def baseS (s : Int) : ByteArray :=
  if 224 ≤ s ∧ s ≤ 229 then ⟨#[97]⟩ else if s = 230 then ⟨#[97, 101]⟩ else if s = 231 then ⟨#[99]⟩ else if 232 ≤ s ∧ s ≤ 235 then ⟨#[101]⟩ else if 236 ≤ s ∧ s ≤ 239 then ⟨#[105]⟩
  else if s = 240 then ⟨#[100]⟩ else if s = 241 then ⟨#[110]⟩ else if (242 ≤ s ∧ s ≤ 246) ∨ s = 248 then ⟨#[111]⟩ else if 249 ≤ s ∧ s ≤ 252 then ⟨#[117]⟩ else if s = 253 ∨ s = 255 then ⟨#[121]⟩
  else if s = 254 then ⟨#[116, 104]⟩ else if s = 223 then ⟨#[115, 115]⟩ else Utf8.encode s
def baseC (r : Int) : ByteArray := baseS (smallC r)
theorem ret_str {a b : ByteArray} (h : a = b) : Ending.returned (.string a) = .returned (.string b) := by rw [h]
set_option maxRecDepth 100000 in
set_option maxHeartbeats 3200000 in
theorem Base_any (r : Int) (w : World) (hr : -2147483648 ≤ r ∧ r ≤ 2147483647) :
    Calls Tryz.prog 155 #[.int .i32 r] w fun e w' => e = .returned (.string (baseC r)) ∧ w = w' := by
  have hs := smallC_bounds hr
  have HS := Lib.hid (fun w => Small_any r w hr)
  unfold baseC
  generalize smallC r = s at *
  clear hr
  go_enter Tryz.func155, Tryz.ntmps155
  go_wp2_with (go_at_call 93; refine (HS.out _).mono ?_; rintro e w1 ⟨rfl, rfl⟩)
  all_goals
    go_ret
    refine ⟨ret_str ?_, rfl⟩
    (try simp only [beq_iff_eq, beq_eq_false_iff_ne, ne_eq] at *)
    unfold baseS
    repeat (first | rw [if_pos (by omega)] | rw [if_neg (by omega)])
set_option maxRecDepth 100000 in
set_option maxHeartbeats 3200000 in
theorem RBase_any (r : Int) (w : World) (hr : -2147483648 ≤ r ∧ r ≤ 2147483647) :
    Calls Tryz.prog 105 #[.int .i32 r] w fun e w' => e = .returned (.string (baseC r)) ∧ w = w' := by
  have hs := smallC_bounds hr
  have HS := Lib.hid (fun w => RSmall_any r w hr)
  unfold baseC
  generalize smallC r = s at *
  have HI := Lib.hid (in_any s)
  clear hr
  go_enter Tryz.func105, Tryz.ntmps105
  go_wp2_with (first
    | (go_at_call 50; refine (HS.out _).mono ?_; rintro e w1 ⟨rfl, rfl⟩)
    | (go_at_call 96; refine (HI.out _ _ _).mono ?_; rintro e w1 ⟨rfl, rfl⟩))
  all_goals
    go_ret
    refine ⟨ret_str ?_, rfl⟩
    (try simp only [beq_iff_eq, beq_eq_false_iff_ne, ne_eq, inR_iff, inR_not] at *)
    unfold baseS
    repeat (first | rw [if_pos (by omega)] | rw [if_neg (by omega)])
end Go.Proofs.YtohngjkedhpikaaGreatDoor
/-
  TEXT, CODES C: widths.
-/



namespace Go.Proofs.YtohngjkedhpikaaGreatDoor
open Go.RowKit
attribute [local go_sem] Old.refl Old.alloc Old.drew Old.setCell OldW.old

def wideT : List (Int × Int) := [(4352, 4447), (11904, 12350), (12353, 13311), (13312, 19903), (19968, 42191), (44032, 55203), (63744, 64255), (65072, 65135), (65280, 65376), (65504, 65510), (127744, 128591), (129280, 129535), (131072, 262141)]
def zeroW (r : Int) : Bool := inR r 0 31 || inR r 127 159 || inR r 768 879 || inR r 8203 8205 || inR r 65024 65039
def wideN (r : Int) (k : Nat) : Bool := inR r (wideT.getD k (0, 0)).1 (wideT.getD k (0, 0)).2
/-- how many cells a character takes -/
def widC (r : Int) : Nat := if zeroW r then 0 else if (List.range 13).any (wideN r) then 2 else 1
/-- the table's cells -/
def wideV : Array Value := #[.int .i32 4352, .int .i32 4447, .int .i32 11904, .int .i32 12350, .int .i32 12353, .int .i32 13311, .int .i32 13312, .int .i32 19903, .int .i32 19968, .int .i32 42191, .int .i32 44032, .int .i32 55203, .int .i32 63744, .int .i32 64255, .int .i32 65072, .int .i32 65135, .int .i32 65280, .int .i32 65376, .int .i32 65504, .int .i32 65510, .int .i32 127744, .int .i32 128591, .int .i32 129280, .int .i32 129535, .int .i32 131072, .int .i32 262141]
theorem wide0 : ∀ w, (zeroValue 244).run Tryz.prog w = .ok (.agg (Array.replicate 26 (.int .i32 0))) w := (zero_of_info (n := 26) (by kernel_rfl)).1
theorem wpList_alloc {P : Program} {ops : Array Oper} {rest : List Oper} {o : Oper} {a : Act} {w : World} {Q : Exit → Act → World → Prop} (hg : o.guard = none) (t : TypeId) (ho : o.op = .alloc t) (d : Option Tmp) (hd : o.dst = d)
    (z : Value) (hz : ∀ w, (zeroValue t).run P w = .ok z w) (h : wpList P ops Q rest (a.put d (.pointer (some ⟨w.heap.size, 0, none⟩))) (w.alloc (.cells z.cells t))) : wpList P ops Q (o :: rest) a w := by
  subst hd
  refine wpList_plain hg fun K hK => ?_
  unfold Oper.wp execOp
  simp only [ho, Instr.alloc, newVar, newRow, Sem.run_bind, hz, Result.andThen_ok]
  simp [go_sem]
  exact hK _ _ h
theorem wide_index : ∀ k, k < 13 → ∀ w, (Instr.index 244 (.agg wideV) (.int .i64 (k : Nat))).run Tryz.prog w = .ok (.agg #[.int .i32 (wideT.getD k (0, 0)).1, .int .i32 (wideT.getD k (0, 0)).2]) w := by
  intro k hk w
  rcases (by omega : k = 0 ∨ k = 1 ∨ k = 2 ∨ k = 3 ∨ k = 4 ∨ k = 5 ∨ k = 6 ∨ k = 7 ∨ k = 8 ∨ k = 9 ∨ k = 10 ∨ k = 11 ∨ k = 12) with rfl | rfl | rfl | rfl | rfl | rfl | rfl | rfl | rfl | rfl | rfl | rfl | rfl
  all_goals kernel_rfl
theorem ret_i {a : Int} {b : Nat} (h : a = (b : Int)) : Ending.returned (.int .i64 a) = .returned (.int .i64 b) := by rw [h]
theorem widC_zero {r : Int} (h : zeroW r = true) : widC r = 0 := by unfold widC; rw [if_pos h]
theorem widC_two {r : Int} (h : zeroW r = false) {k : Nat} (hk : k < 13) (h' : wideN r k = true) : widC r = 2 := by
  unfold widC; rw [if_neg (by rw [h]; decide), if_pos (List.any_eq_true.2 ⟨k, by simpa using hk, h'⟩)]
theorem widC_one {r : Int} (h : zeroW r = false) (h' : ∀ k, k < 13 → wideN r k = false) : widC r = 1 := by
  unfold widC
  rw [if_neg (by rw [h]; decide), if_neg]
  rw [Bool.not_eq_true, List.any_eq_false]
  intro k hk
  rw [h' k (by simpa using hk)]; decide
set_option maxRecDepth 100000 in
set_option maxHeartbeats 6400000 in
theorem Width_any (r : Int) (w : World) (hr : -2147483648 ≤ r ∧ r ≤ 2147483647) :
    Calls Tryz.prog 154 #[.int .i32 r] w fun e w' => e = .returned (.int .i64 (widC r)) ∧ Old w w' := by
  by_cases hz : zeroW r = true
  · have Hz := Lib.hid (widC_zero hz)
    simp only [zeroW, Bool.or_eq_true, inR_iff] at hz
    go_enter Tryz.func154, Tryz.ntmps154
    go_wp2
    all_goals first
      | (exfalso; omega)
      | (go_ret; exact ⟨ret_i (by rw [Hz.out]; rfl), Old.refl _⟩)
  · have hz := Bool.eq_false_iff.2 hz
    have Hz := Lib.hid hz
    have H1 := Lib.hid (fun h => widC_one hz h)
    have H2 := Lib.hid (fun k hk h => widC_two hz (k := k) hk h)
    simp only [zeroW, Bool.or_eq_false_iff, inR_not] at hz
    go_enter Tryz.func154, Tryz.ntmps154
    go_upto_region 1 with fail
    go_cut [6] from 6 to 12 (fun x wx => x = .bool false ∧ w = wx)
    case' first =>
      go_wp2
      all_goals
        go_meet
        refine ⟨congrArg Value.bool ?_, rfl⟩
        simp <;> omega
    obtain ⟨rfl, rfl⟩ := hcut
    go_upto_region 2 with fail
    go_cut [13] from 13 to 19 (fun x wx => x = .bool false ∧ w = wx)
    case' first =>
      go_wp2
      all_goals
        go_meet
        refine ⟨congrArg Value.bool ?_, rfl⟩
        simp <;> omega
    obtain ⟨rfl, rfl⟩ := hcut
    go_upto_region 3 with fail
    go_cut [20] from 20 to 26 (fun x wx => x = .bool false ∧ w = wx)
    case' first =>
      go_wp2
      all_goals
        go_meet
        refine ⟨congrArg Value.bool ?_, rfl⟩
        simp <;> omega
    obtain ⟨rfl, rfl⟩ := hcut
    go_upto_region 4 with fail
    go_cut [27] from 27 to 33 (fun x wx => x = .bool false ∧ w = wx)
    case' first =>
      go_wp2
      all_goals
        go_meet
        refine ⟨congrArg Value.bool ?_, rfl⟩
        simp <;> omega
    obtain ⟨rfl, rfl⟩ := hcut
    go_upto_region 5 with fail
    go_cut [34] from 34 to 40 (fun x wx => x = .bool false ∧ w = wx)
    case' first =>
      go_wp2
      all_goals
        go_meet
        refine ⟨congrArg Value.bool ?_, rfl⟩
        simp <;> omega
    obtain ⟨rfl, rfl⟩ := hcut
    go_upto_region 7 with fail
    go_cut [3] from 41 to 54 (fun x wx => x = .pointer (some ⟨w.heap.size, 0, none⟩) ∧ w.alloc (.cells wideV 244) = wx)
    case' first =>
      refine wp_region_lit ?_
      refine wpList_buildTo rfl 243 _ rfl (some 41) rfl #[.int .i32 4352, .int .i32 4447] (by kernel_rfl) ?_
      refine wpList_buildTo rfl 243 _ rfl (some 42) rfl #[.int .i32 11904, .int .i32 12350] (by kernel_rfl) ?_
      refine wpList_buildTo rfl 243 _ rfl (some 43) rfl #[.int .i32 12353, .int .i32 13311] (by kernel_rfl) ?_
      refine wpList_buildTo rfl 243 _ rfl (some 44) rfl #[.int .i32 13312, .int .i32 19903] (by kernel_rfl) ?_
      refine wpList_buildTo rfl 243 _ rfl (some 45) rfl #[.int .i32 19968, .int .i32 42191] (by kernel_rfl) ?_
      refine wpList_buildTo rfl 243 _ rfl (some 46) rfl #[.int .i32 44032, .int .i32 55203] (by kernel_rfl) ?_
      refine wpList_buildTo rfl 243 _ rfl (some 47) rfl #[.int .i32 63744, .int .i32 64255] (by kernel_rfl) ?_
      refine wpList_buildTo rfl 243 _ rfl (some 48) rfl #[.int .i32 65072, .int .i32 65135] (by kernel_rfl) ?_
      refine wpList_buildTo rfl 243 _ rfl (some 49) rfl #[.int .i32 65280, .int .i32 65376] (by kernel_rfl) ?_
      refine wpList_buildTo rfl 243 _ rfl (some 50) rfl #[.int .i32 65504, .int .i32 65510] (by kernel_rfl) ?_
      refine wpList_buildTo rfl 243 _ rfl (some 51) rfl #[.int .i32 127744, .int .i32 128591] (by kernel_rfl) ?_
      refine wpList_buildTo rfl 243 _ rfl (some 52) rfl #[.int .i32 129280, .int .i32 129535] (by kernel_rfl) ?_
      refine wpList_buildTo rfl 243 _ rfl (some 53) rfl #[.int .i32 131072, .int .i32 262141] (by kernel_rfl) ?_
      refine wpList_buildTo rfl 244 _ rfl (some 54) rfl wideV (by kernel_rfl) ?_
      refine wpList_alloc rfl 244 rfl (some 3) rfl _ wide0 ?_
      refine wpList_store_rowTo rfl 244 (.tmp 3) (.tmp 54) rfl rfl w.heap.size wideV ?_ ?_ 244 (Value.agg (Array.replicate 26 (.int .i32 0))).cells (heap_alloc_last w _) (by kernel_rfl) (by kernel_rfl) (by kernel_rfl) ?_
      · kernel_rfl
      · kernel_rfl
      rw [World.setRow_alloc_new]
      refine wpList_nil ?_
      simp only [Act.put, List.setIfInBounds_toArray, List.set_cons_succ, List.set_cons_zero]
      refine Met.intro ?_
      go_step
      go_meet
      exact ⟨rfl, rfl⟩
    obtain ⟨rfl, rfl⟩ := hcut
    have hrow : (w.alloc (.cells wideV 244)).heap[w.heap.size]? = some (.cells wideV 244 (0, 0)) := heap_alloc_last w _
    have ho : Old w (w.alloc (.cells wideV 244)) := (Old.refl w).alloc _
    generalize w.alloc (.cells wideV 244) = w1 at *
    generalize w.heap.size = g at *
    go_upto_region 8 with fail
    go_cut [55, 56] from 55 to 56 (fun x y wx => x = .agg wideV ∧ y = .int .i64 (0 : Nat) ∧ w1 = wx)
    case' first =>
      refine wp_region_lit ?_
      refine wpList_load_row rfl 244 (.tmp 3) rfl g (by kernel_rfl) 244 wideV (0, 0) _ hrow Tryz.underlying244 rfl (by kernel_rfl) ?_
      simp only [Act.put, List.setIfInBounds_toArray, List.set_cons_succ, List.set_cons_zero]
      go_wp2
      go_meet
      exact ⟨rfl, rfl, rfl⟩
    obtain ⟨rfl, rfl, rfl⟩ := hcut
    have Hix := Lib.hid wide_index
    clear hrow
    go_wp2
    go_loopw [56] (fun j wr => ∃ k : Nat, k ≤ 13 ∧ j = .int .i64 k ∧ (∀ i, i < k → wideN r i = false) ∧ Old w wr) (fun j _ => 13 - (intOf j).toNat)
    case atStart => exact ⟨0, by omega, rfl, fun i hi => by omega, ho⟩
    case round =>
      obtain ⟨k, hk, rfl, hno, hold⟩ := hrel
      have Hno := Lib.hid hno
      clear hno
      by_cases hlt : k < 13
      · have hk1 : (k : Int) < 13 := by omega
        have hix := Hix.out k hlt
        have Hw := Lib.hid (show wideN r k = inR r (wideT.getD k (0, 0)).1 (wideT.getD k (0, 0)).2 from rfl)
        generalize (wideT.getD k (0, 0)).1 = lo at *
        generalize (wideT.getD k (0, 0)).2 = hi at *
        go_wp2
        all_goals first
          | (go_ret2; exact ⟨ret_i (by rw [H2.out k hlt (by rw [Hw.out]; exact inR_iff.2 (by omega))]; rfl), hold.alloc _⟩)
          | (go_ret; exact ⟨ret_i (by rw [H2.out k hlt (by rw [Hw.out]; exact inR_iff.2 (by omega))]; rfl), hold.alloc _⟩)
          | (go_roundw
             case rel => exact ⟨k + 1, by omega, by go_num, all_succ Hno.out (by rw [Hw.out]; exact inR_not.2 (by omega)), hold.alloc _⟩
             case measure => simp [intOf]; omega)
      · obtain rfl : k = 13 := by omega
        go_wp2
        go_ret
        exact ⟨ret_i (by rw [H1.out Hno.out]; rfl), hold⟩
end Go.Proofs.YtohngjkedhpikaaGreatDoor
