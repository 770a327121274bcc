/-
  TEXT, CODES B: bases, widths.
-/
import Derived.Test.YtpifkinlaicliaaDoorZTextCodesA
namespace Go.Proofs.YtpifkinlaicliaaDoor
open Go.RowKit
attribute [local go_sem] Old.refl Old.alloc Old.drew Old.setCell OldW.old

/-- what a small letter counts as -/
def baseS (s : Int) : ByteArray :=
  if 224 ≤ s ∧ s ≤ 229 then ⟨#[97]⟩ else if s = 230 then ⟨#[97, 101]⟩ else if s = 231 then ⟨#[99]⟩ else if 232 ≤ s ∧ s ≤ 235 then ⟨#[101]⟩ else if 236 ≤ s ∧ s ≤ 239 then ⟨#[105]⟩
  else if s = 240 then ⟨#[100]⟩ else if s = 241 then ⟨#[110]⟩ else if (242 ≤ s ∧ s ≤ 246) ∨ s = 248 then ⟨#[111]⟩ else if 249 ≤ s ∧ s ≤ 252 then ⟨#[117]⟩ else if s = 253 ∨ s = 255 then ⟨#[121]⟩
  else if s = 254 then ⟨#[116, 104]⟩ else if s = 223 then ⟨#[115, 115]⟩ else Utf8.encode s
def baseC (r : Int) : ByteArray := baseS (smallC r)
theorem ret_str {a b : ByteArray} (h : a = b) : Ending.returned (.string a) = .returned (.string b) := by rw [h]
set_option maxRecDepth 100000 in
set_option maxHeartbeats 3200000 in
theorem Base_any (r : Int) (w : World) (hr : -2147483648 ≤ r ∧ r ≤ 2147483647) :
    Calls Tryd.prog 88 #[.int .i32 r] w fun e w' => e = .returned (.string (baseC r)) ∧ w = w' := by
  have hs := smallC_bounds hr
  have HS := Lib.hid (fun w => Small_any r w hr)
  unfold baseC
  generalize smallC r = s at *
  clear hr
  go_enter Tryd.func88, Tryd.ntmps88
  go_wp2_with (go_at_call 45; refine (HS.out _).mono ?_; rintro e w1 ⟨rfl, rfl⟩)
  all_goals
    go_ret
    refine ⟨ret_str ?_, rfl⟩
    (try simp only [beq_iff_eq, beq_eq_false_iff_ne, ne_eq] at *)
    unfold baseS
    repeat (first | rw [if_pos (by omega)] | rw [if_neg (by omega)])
set_option maxRecDepth 100000 in
set_option maxHeartbeats 3200000 in
theorem RBase_any (r : Int) (w : World) (hr : -2147483648 ≤ r ∧ r ≤ 2147483647) :
    Calls Tryd.prog 57 #[.int .i32 r] w fun e w' => e = .returned (.string (baseC r)) ∧ w = w' := by
  have hs := smallC_bounds hr
  have HS := Lib.hid (fun w => RSmall_any r w hr)
  unfold baseC
  generalize smallC r = s at *
  have HI := Lib.hid (in_any s)
  clear hr
  go_enter Tryd.func57, Tryd.ntmps57
  go_wp2_with (first
    | (go_at_call 58; refine (HS.out _).mono ?_; rintro e w1 ⟨rfl, rfl⟩)
    | (go_at_call 55; refine (HI.out _ _ _).mono ?_; rintro e w1 ⟨rfl, rfl⟩))
  all_goals
    go_ret
    refine ⟨ret_str ?_, rfl⟩
    (try simp only [beq_iff_eq, beq_eq_false_iff_ne, ne_eq, inR_iff, inR_not] at *)
    unfold baseS
    repeat (first | rw [if_pos (by omega)] | rw [if_neg (by omega)])
end Go.Proofs.YtpifkinlaicliaaDoor
