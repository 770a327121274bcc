/-
  WALKS A: the leaves of the contents' functions: level, find, parent; the reference's at, above; the laws' twin, ints, has, five.
-/
import Derived.Test.YtigpjfebnppejaaProg
import Derived.Test.YtigpjfebnppejaaTocPlain
namespace Go.Proofs.Ytigpjfebnppejaa
open Go.RowKit
attribute [local go_sem] Old.refl Old.alloc Old.drew Old.setCell OldW.old

set_option maxHeartbeats 400000 in
theorem level_any (l a : Int) (w : World) (ha : 0 ≤ a) (ha' : a ≤ 8) :
    Calls Try.prog 46 #[.int .i64 l, .int .i64 a] w fun e w' => e = .returned (.bool (levelB l a)) ∧ w = w' := by
  go_enter Try.func46, Try.ntmps46
  go_wp2
  all_goals go_ret
  all_goals refine ⟨?_, rfl⟩
  all_goals simp [levelB, *]
  all_goals omega

set_option maxHeartbeats 400000 in
theorem find1_any (x y tp : Int) (b : Nat) (w : World) (hc : ∀ W, Old w W → W.cell? ⟨b, 0, none⟩ = some (.int .i64 tp)) :
    Calls Try.prog 56 #[.agg #[.int .i64 x, .int .i64 y], .pointer (some ⟨b, 0, none⟩)] w fun e w' => e = .returned (.bool (x == tp)) ∧ Old w w' := by
  go_enter Try.func56, Try.ntmps56
  go_wp2
  go_ret
  exact ⟨rfl, (Old.refl _).alloc _⟩

set_option maxHeartbeats 400000 in
theorem indexFunc_any (t : List (Int × Int)) (x : Int) (v : Value) (c : Nat) (w : World) (hT : Prs w v t) (hc : ∀ W, Old w W → W.cell? ⟨c, 0, none⟩ = some (.int .i64 x)) :
    Calls Try.prog 55 #[v, .func (.func 56) #[] #[.pointer (some ⟨c, 0, none⟩)]] w fun e w' => e = .returned (.int .i64 (atFrom t x 0)) ∧ Old w w' := by
  obtain ⟨a, cap, b, off, rfl, hn1, hn2, ha, ht0, ht1⟩ := hT
  have hn : t.length ≤ 9223372036854775807 := by omega
  go_enter Try.func55, Try.ntmps55
  go_wp2_with fail
  go_loopw [5, 8] (fun _ j wr => ∃ k : Nat, k ≤ t.length ∧ j = .int .i64 k ∧ atFrom t x k = atFrom t x 0 ∧ Old w wr) (fun _ j _ => t.length - (intOf j).toNat)
  case atStart => exact ⟨0, by omega, rfl, rfl, Old.refl _⟩
  case round =>
    obtain ⟨k, hk, rfl, hat, hold⟩ := hrel
    have hat' := Lib.hid hat
    clear hat
    by_cases hlt : k < t.length
    · obtain rfl := ha (by omega)
      go_wp2_with (go_at_call 56; refine (Calls.old hold (find1_any _ _ x c _ (fun W h => hc W (hold.trans h)))).mono ?_; rintro e w1 ⟨rfl, ho1⟩)
      · go_ret
        exact ⟨ret_i64 (by rw [← hat'.out, atFrom_hit hlt (by assumption)]), ho1⟩
      · go_roundw
        case rel => exact ⟨k + 1, by omega, by go_num, by rw [← hat'.out, atFrom_miss hlt (by assumption)], ho1⟩
        case measure => simp [intOf]; omega
    · have he := Lib.hid (atFrom_end (x := x) hlt)
      go_wp2_with fail
      go_ret
      exact ⟨ret_i64 (by rw [← hat'.out, he.out]), hold⟩

set_option maxHeartbeats 400000 in
theorem find_any (t : List (Int × Int)) (x : Int) (v : Value) (w : World) (hT : Prs w v t) :
    Calls Try.prog 44 #[v, .int .i64 x] w fun e w' => e = .returned (.int .i64 (atFrom t x 0)) ∧ Old w w' := by
  have hT' := Lib.hid hT
  clear hT
  have hmf : ∀ (fn : Fn) (first cap : Array Value) (w : World), (Instr.makeFunc fn first cap).run Try.prog w = .ok (.func fn first cap) w := fun _ _ _ _ => rfl
  go_enter Try.func44, Try.ntmps44
  go_wp2_with (go_at_call 55; refine (Calls.old ((Old.refl w).alloc _) (indexFunc_any t x v w.heap.size _ (hT'.out.old ((Old.refl w).alloc _)) (later (by simp [go_sem])))).mono ?_; rintro e w1 ⟨rfl, ho1⟩)
  go_ret
  exact ⟨rfl, ho1⟩

set_option maxHeartbeats 400000 in
theorem parent_root (t : List (Int × Int)) (i : Int) (i' : Nat) (v : Value) (w : World) (hT : Prs w v t) (hi : i' < t.length) (hi' : i = (i' : Int)) (hl : p1 t i' = 1) :
    Calls Try.prog 42 #[v, .int .i64 i] w fun e w' => e = .returned (.int .i64 (-1)) ∧ Old w w' := by
  subst hi'
  obtain ⟨a, cap, b, off, rfl, hn1, hn2, ha, ht0, ht1⟩ := hT
  have hn : t.length ≤ 9223372036854775807 := by omega
  obtain rfl := ha (by omega)
  clear ha
  go_enter Try.func42, Try.ntmps42
  go_wp2_with fail
  go_step3
  go_wp2_with fail
  rw [Exit.noGoto_ret]
  go_ret
  exact ⟨rfl, Old.refl _⟩

set_option maxHeartbeats 400000 in
theorem parent_deep (t : List (Int × Int)) (i : Int) (i' : Nat) (v : Value) (w : World) (hT : Prs w v t) (hi : i' < t.length) (hi' : i = (i' : Int)) (hl : 2 ≤ p1 t i') (hl8 : p1 t i' ≤ 8) :
    Calls Try.prog 42 #[v, .int .i64 i] w fun e w' => e = .returned (.int .i64 (par t i')) ∧ Old w w' := by
  subst hi'
  obtain ⟨a, cap, b, off, rfl, hn1, hn2, ha, ht0, ht1⟩ := hT
  have hn : t.length ≤ 9223372036854775807 := by omega
  obtain rfl := ha (by omega)
  clear ha
  have h0 : (p1 t i' - 1 == 0) = false := by simp; omega
  have h9 : ((p1 t i') == (p1 t i' - 1)) = false := by simp; omega
  go_enter Try.func42, Try.ntmps42
  go_wp2_with fail
  go_step3
  go_wp2_with fail
  go_step3
  go_wp2_with fail
  go_loopw [1] (fun j wr => ∃ k : Int, -1 ≤ k ∧ k ≤ i' ∧ j = .int .i64 k ∧ up t (p1 t i' - 1) (k + 1).toNat = par t i' ∧ Old w wr) (fun j _ => (intOf j + 1).toNat)
  case atStart => exact ⟨i', by omega, by omega, rfl, by rw [show ((i' : Int) + 1).toNat = i' + 1 from by omega, up, if_neg (by omega)]; rfl, Old.refl _⟩
  case round =>
    obtain ⟨k, hk0, hk1, rfl, hat, hold⟩ := hrel
    have hat' := Lib.hid hat
    clear hat
    by_cases hlt : 0 ≤ k
    · obtain ⟨m, rfl⟩ := Int.eq_ofNat_of_zero_le hlt
      have hm : m < t.length := by omega
      have hu := hat'.out
      rw [show ((m : Int) + 1).toNat = m + 1 from by omega, up] at hu
      have hu' := Lib.hid hu
      clear hu hat'
      by_cases he : p1 t m = p1 t i' - 1
      · have he' : (p1 t m == p1 t i' - 1) = true := by simpa using he
        have hq := hu'.out
        rw [if_pos he] at hq
        have hq' := Lib.hid hq
        clear hq hu' he
        go_wp2_with fail
        rw [Exit.noGoto_ret]
        go_ret
        exact ⟨ret_i64 hq'.out, hold⟩
      · have he' : (p1 t m == p1 t i' - 1) = false := by simpa using he
        have hq := hu'.out
        rw [if_neg he] at hq
        have hq' := Lib.hid hq
        clear hq hu' he
        go_wp2_with fail
        go_roundw
        case rel => exact ⟨m - 1, by omega, by omega, by go_num, by rw [show ((m : Int) - 1 + 1).toNat = m from by omega]; exact hq'.out, hold⟩
        case measure => simp [intOf]
    · obtain rfl : k = -1 := by omega
      go_wp2_with fail
      go_ret
      exact ⟨ret_i64 hat'.out, hold⟩

set_option maxHeartbeats 400000 in
theorem rat_any (t : List (Int × Int)) (x : Int) (v : Value) (w : World) (hT : Prs w v t) :
    Calls Try.prog 48 #[v, .int .i64 x] w fun e w' => e = .returned (.int .i64 (atFrom t x 0)) ∧ Old w w' := by
  obtain ⟨a, cap, b, off, rfl, hn1, hn2, ha, ht0, ht1⟩ := hT
  have hn : t.length ≤ 9223372036854775807 := by omega
  go_enter Try.func48, Try.ntmps48
  go_wp2_with fail
  go_loopw [5] (fun j wr => ∃ k : Nat, k ≤ t.length ∧ j = .int .i64 k ∧ atFrom t x k = atFrom t x 0 ∧ Old w wr) (fun j _ => t.length - (intOf j).toNat)
  case atStart => exact ⟨0, by omega, rfl, rfl, Old.refl _⟩
  case round =>
    obtain ⟨k, hk, rfl, hat, hold⟩ := hrel
    have hat' := Lib.hid hat
    clear hat
    by_cases hlt : k < t.length
    · obtain rfl := ha (by omega)
      go_wp2_with fail
      · go_ret
        exact ⟨ret_i64 (by rw [← hat'.out, atFrom_hit hlt (by assumption)]), hold⟩
      · go_roundw
        case rel => exact ⟨k + 1, by omega, by go_num, by rw [← hat'.out, atFrom_miss hlt (by assumption)], hold⟩
        case measure => simp [intOf]; omega
    · have he := Lib.hid (atFrom_end (x := x) hlt)
      go_wp2_with fail
      go_ret
      exact ⟨ret_i64 (by rw [← hat'.out, he.out]), hold⟩

set_option maxHeartbeats 400000 in
theorem above_any (t : List (Int × Int)) (i : Int) (i' : Nat) (v : Value) (w : World) (hT : Prs w v t) (hi : i' < t.length) (hi' : i = (i' : Int)) (hl : 1 ≤ p1 t i') (hl8 : p1 t i' ≤ 8) :
    Calls Try.prog 49 #[v, .int .i64 i] w fun e w' => e = .returned (.int .i64 (par t i')) ∧ Old w w' := by
  subst hi'
  obtain ⟨a, cap, b, off, rfl, hn1, hn2, ha, ht0, ht1⟩ := hT
  have hn : t.length ≤ 9223372036854775807 := by omega
  obtain rfl := ha (by omega)
  clear ha
  go_enter Try.func49, Try.ntmps49
  go_wp2_with fail
  go_loopw [5] (fun j wr => ∃ k : Int, -1 ≤ k ∧ k < i' ∧ j = .int .i64 k ∧ up t (p1 t i' - 1) (k + 1).toNat = par t i' ∧ Old w wr) (fun j _ => (intOf j + 1).toNat)
  case atStart => exact ⟨(i' : Int) - 1, by omega, by omega, rfl, by rw [show ((i' : Int) - 1 + 1).toNat = i' from by omega]; rfl, Old.refl _⟩
  case round =>
    obtain ⟨k, hk0, hk1, rfl, hat, hold⟩ := hrel
    have hat' := Lib.hid hat
    clear hat
    by_cases hlt : 0 ≤ k
    · obtain ⟨m, rfl⟩ := Int.eq_ofNat_of_zero_le hlt
      have hm : m < t.length := by omega
      have hu := hat'.out
      rw [show ((m : Int) + 1).toNat = m + 1 from by omega, up] at hu
      have hu' := Lib.hid hu
      clear hu hat'
      go_wp2_with fail
      refine wp_region_old hold (by kernel_rfl) (by kernel_rfl) ?_
      repeat (go_big_quiet_step (fail))
      refine wpQuiet_nil ?_
      rintro ⟨wq, hq⟩
      dsimp only
      go_wp2_with fail
      · rename_i hc
        go_ret
        exact ⟨ret_i64 (by have := hu'.out; rw [if_pos (by simpa using hc)] at this; exact this), hq⟩
      · rename_i hc
        go_roundw
        case rel => exact ⟨(m : Int) - 1, by omega, by omega, by go_num, by rw [show ((m : Int) - 1 + 1).toNat = m from by omega]; have := hu'.out; rw [if_neg (by simpa using hc)] at this; exact this, hq⟩
        case measure => simp [intOf]
    · obtain rfl : k = -1 := by omega
      go_wp2_with fail
      go_ret
      exact ⟨ret_i64 hat'.out, hold⟩
end Go.Proofs.Ytigpjfebnppejaa
