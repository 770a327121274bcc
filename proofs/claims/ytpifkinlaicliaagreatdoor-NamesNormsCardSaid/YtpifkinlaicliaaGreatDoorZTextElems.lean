/-
  TEXT, ELEMENTS: digits, kinds.
-/
import Derived.Test.YtpifkinlaicliaaGreatDoorZTextWords
import Derived.Test.YtpifkinlaicliaaGreatDoorZTextRefA
namespace Go.Proofs.YtpifkinlaicliaaGreatDoor
open Go.RowKit
attribute [local go_sem] Old.refl Old.alloc Old.drew Old.setCell OldW.old

def isDg (b : UInt8) : Bool := 48 ≤ b.toNat && b.toNat ≤ 57
/-- how many digits a list begins with -/
def dgN (l : List UInt8) : Nat := (l.takeWhile isDg).length
theorem dgN_eq {l : List UInt8} {n : Nat} (h : ∀ i, i < n → isDg (l.getD i 0) = true) (hn : n ≤ l.length) (h' : n < l.length → isDg (l.getD n 0) = false) : dgN l = n := by
  induction l generalizing n with
  | nil => simp at hn; subst hn; rfl
  | cons x l ih =>
    cases n with
    | zero =>
      have := h' (by simp)
      simp at this
      unfold dgN
      rw [List.takeWhile_cons, this]; rfl
    | succ n =>
      have h0 := h 0 (by omega)
      simp at h0
      have := ih (n := n) (fun i hi => by have := h (i + 1) (by omega); simpa using this) (by simpa using hn) (fun hl => by have := h' (by simpa using hl); simpa using this)
      unfold dgN at this ⊢
      rw [List.takeWhile_cons, h0]
      simp [this]
theorem dgN_le (l : List UInt8) : dgN l ≤ l.length := by
  unfold dgN
  exact (List.takeWhile_prefix _).length_le
set_option maxRecDepth 100000 in
set_option maxHeartbeats 1600000 in
theorem digits_any (s : ByteArray) (w : World) (hs : s.size ≤ 140737488355328) :
    Calls Tryz.prog 99 #[.string s] w fun e w' => e = .returned (.int .i64 (dgN s.data.toList)) ∧ w = w' := by
  go_enter Tryz.func99, Tryz.ntmps99
  go_wp2
  go_loopw [3] (fun j wr => ∃ n : Nat, n ≤ s.size ∧ j = .int .i64 n ∧ (∀ i, i < n → isDg (s.data.toList.getD i 0) = true) ∧ w = wr) (fun j _ => s.size - (intOf j).toNat)
  case atStart => exact ⟨0, Nat.zero_le _, rfl, fun i hi => by omega, by trivial⟩
  case round =>
    obtain ⟨n, hn, rfl, hd, rfl⟩ := hrel
    have Hd := Lib.hid hd
    clear hd
    by_cases hlt : n < s.size
    · have hlt' : (n : Int) < s.size := by omega
      have hx := byte_get s hlt
      have Hx := Lib.hid hx
      clear hx
      by_cases h1 : 48 ≤ (s[n]'hlt).toNat
      · have h1' : (48 : Int) ≤ (s[n]'hlt).toNat := by omega
        by_cases h2 : (s[n]'hlt).toNat ≤ 57
        · have h2' : ((s[n]'hlt).toNat : Int) ≤ 57 := by omega
          go_wp2
          go_roundw
          case rel => exact ⟨n + 1, by omega, by go_num, all_succ Hd.out (by rw [← Hx.out]; simp [isDg]; omega), by trivial⟩
          case measure => simp [intOf]; omega
        · have h2' : decide (((s[n]'hlt).toNat : Int) ≤ 57) = false := by simp; omega
          have Hv := Lib.hid (dgN_eq Hd.out (by rw [str_len]; exact hn) (fun _ => by rw [← Hx.out]; simp [isDg]; omega))
          go_wp2
          go_ret
          exact ⟨ret_i (by rw [Hv.out]), rfl⟩
      · have h1' : decide ((48 : Int) ≤ (s[n]'hlt).toNat) = false := by simp; omega
        have Hv := Lib.hid (dgN_eq Hd.out (by rw [str_len]; exact hn) (fun _ => by rw [← Hx.out]; simp [isDg]; omega))
        go_wp2
        go_ret
        exact ⟨ret_i (by rw [Hv.out]), rfl⟩
    · have hlt' : decide ((n : Int) < s.size) = false := by simp; omega
      have Hv := Lib.hid (dgN_eq Hd.out (by rw [str_len]; exact hn) (fun h => by rw [str_len] at h; omega))
      go_wp2
      go_ret
      exact ⟨ret_i (by rw [Hv.out]), rfl⟩
/-- what a character of a base is -/
def kindC (r : Int) : Nat := if (97 ≤ r ∧ r ≤ 122) ∨ (192 ≤ r ∧ ¬ r = 215 ∧ ¬ r = 247) then 2 else 0
theorem kindOf_any (r : Int) (w : World) : Calls Tryz.prog 103 #[.int .i32 r] w fun e w' => e = .returned (.int .i64 (kindC r)) ∧ w = w' := by
  go_enter Tryz.func103, Tryz.ntmps103
  go_wp2
  all_goals
    go_ret
    refine ⟨ret_i ?_, rfl⟩
    (try simp only [bne_iff_ne, ne_eq, bne_eq_false_iff_eq] at *)
    unfold kindC
    first
      | (rw [if_pos (by omega)]; rfl)
      | (rw [if_neg (by omega)]; rfl)
end Go.Proofs.YtpifkinlaicliaaGreatDoor
