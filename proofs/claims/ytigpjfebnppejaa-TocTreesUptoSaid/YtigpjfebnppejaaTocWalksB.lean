/-
  WALKS B: twin, ints, has, five; Check, good, at of the program; Check, Good of the reference.
-/
import Derived.Test.YtigpjfebnppejaaTocWalksA
import Derived.Test.YtigpjfebnppejaaMaps
namespace Go.Proofs.Ytigpjfebnppejaa
open Go.RowKit Go.Maps
attribute [local go_sem] Old.refl Old.alloc Old.drew Old.setCell OldW.old

theorem infoInt : (Try.prog.info? 3).map (fun i => (i.zero, i.size, i.bytes)) = some (some (.int .i64 0), 1, 8) := by kernel_rfl
theorem infoEnt : (Try.prog.info? 34).map (fun i => (i.zero, i.size, i.bytes)) = some (some (.agg #[.int .i64 0, .int .i64 0]), 2, 16) := by kernel_rfl
theorem zeroInt (w : World) : (zeroValue 3).run Try.prog w = .ok (.int .i64 0) w := by kernel_rfl

/-- a returned slice of pairs -/
def RetPrs (w' : World) (t : List (Int × Int)) (e : Ending) : Prop := ∃ v, e = .returned v ∧ Prs w' v t
def RetIntsE (w' : World) (l : List Int) (n : Int) (e : Ending) : Prop := ∃ v, e = .returned (.tuple #[v, .int .i64 n]) ∧ Ints w' v l

set_option maxHeartbeats 400000 in
theorem twin_any (t : List (Int × Int)) (v : Value) (w : World) (hT : Prs w v t) (hb : t.length * 16 ≤ 140737488355328) :
    Calls Try.prog 12 #[v] w fun e w' => RetPrs w' t e ∧ Old w w' := by
  have hT' := Lib.hid hT
  clear hT
  go_enter Try.func12, Try.ntmps12
  go_wp2_with (at_builtin; refine wpList_append_prs (w0 := w) rfl _ _ 22 rfl 34 Try.underlying22 infoEnt _ [] t rfl (World.ownsRow_lit w #[] 0 (Nat.le_refl _) (by simp) rfl) v rfl (hT'.out.old ((Old.refl w).alloc _)) (by simpa using hb) ((Old.refl w).alloc _) ?_; intro v' w' h1 h2 _)
  go_ret
  exact ⟨⟨_, rfl, h1.prs⟩, h2⟩

set_option maxHeartbeats 400000 in
theorem has_any (l : List Int) (x : Int) (v : Value) (w : World) (hT : Ints w v l) :
    Calls Try.prog 28 #[v, .int .i64 x] w fun e w' => e = .returned (.bool (hasB l x)) ∧ Old w w' := by
  obtain ⟨a, cap, b, off, rfl, hn1, hn2, ha, ht0⟩ := hT
  have hn : l.length ≤ 9223372036854775807 := by omega
  go_enter Try.func28, Try.ntmps28
  go_wp2_with fail
  go_loopw [5] (fun j wr => ∃ k : Nat, k ≤ l.length ∧ j = .int .i64 k ∧ Hid (∀ i, i < k → ix l i ≠ x) ∧ Old w wr) (fun j _ => l.length - (intOf j).toNat)
  case atStart => exact ⟨0, by omega, rfl, fun i hi => absurd hi (by omega), Old.refl _⟩
  case round =>
    obtain ⟨k, hk, rfl, hat, hold⟩ := hrel
    by_cases hlt : k < l.length
    · obtain rfl := ha (by omega)
      go_wp2_with fail
      · go_ret
        exact ⟨ret_bool (hasB_yes hlt (by assumption)).symm, hold⟩
      · rename_i hc
        go_roundw
        case rel => exact ⟨k + 1, by omega, by go_num, all_succ hat.out (by simpa using hc), hold⟩
        case measure => simp [intOf]; omega
    · go_wp2_with fail
      go_ret
      exact ⟨ret_bool (hasB_no fun i hi => hat.out i (by omega)).symm, hold⟩

set_option maxHeartbeats 400000 in
theorem ints_any (l m : List Int) (v u : Value) (w : World) (hT : Ints w v l) (hU : Ints w u m) :
    Calls Try.prog 26 #[v, u] w fun e w' => e = .returned (.bool (eqB l m)) ∧ Old w w' := by
  obtain ⟨a, cap, b, off, rfl, hn1, hn2, ha, ht0⟩ := hT
  obtain ⟨a', cap', b', off', rfl, hn1', hn2', ha', ht0'⟩ := hU
  have hn : l.length ≤ 9223372036854775807 := by omega
  by_cases hlen : l.length = m.length
  · have hl1 : ((l.length : Int) != m.length) = false := by simp [hlen]
    have hl2 : m.length ≤ l.length := by omega
    have hl3 : l.length ≤ m.length := by omega
    have Hlen := Lib.hid hlen
    clear hlen
    go_enter Try.func26, Try.ntmps26
    go_wp2_with fail
    go_loopw [5] (fun j wr => ∃ k : Nat, k ≤ l.length ∧ j = .int .i64 k ∧ Hid (∀ i, i < k → ix l i = ix m i) ∧ Old w wr) (fun j _ => l.length - (intOf j).toNat)
    case atStart => exact ⟨0, by omega, rfl, fun i hi => absurd hi (by omega), Old.refl _⟩
    case round =>
      obtain ⟨k, hk, rfl, hat, hold⟩ := hrel
      by_cases hlt : k < l.length
      · obtain rfl := ha (by omega)
        obtain rfl := ha' (by omega)
        have hlt' : k < m.length := by omega
        go_wp2_with fail
        refine wp_region_old hold (by kernel_rfl) (by kernel_rfl) ?_
        repeat (go_big_quiet_step (fail))
        refine wpQuiet_nil ?_
        rintro ⟨wq, hq⟩
        dsimp only
        go_wp2_with fail
        · rename_i hc
          go_ret
          exact ⟨ret_bool (ints_apart (by simpa using hc)).symm, hq⟩
        · rename_i hc
          go_roundw
          case rel => exact ⟨k + 1, by omega, by go_num, all_succ hat.out (by simpa using hc), hq⟩
          case measure => simp [intOf]; omega
      · go_wp2_with fail
        go_ret
        exact ⟨ret_bool (by rw [ints_same Hlen.out fun i hi => hat.out i (by omega), eqB_self]), hold⟩
  · have hl1 : ((l.length : Int) != m.length) = true := by simp; omega
    have Hf := Lib.hid (ints_len hlen)
    clear hlen
    go_enter Try.func26, Try.ntmps26
    go_wp2_with fail
    go_ret
    exact ⟨ret_bool Hf.out.symm, Old.refl _⟩

set_option maxHeartbeats 400000 in
theorem five_any (w : World) :
    Calls Try.prog 38 #[] w fun e w' => RetPrs w' [(4, 1), (0, 2), (2, 3), (7, 2), (1, 1)] e ∧ Old w w' := by
  go_enter Try.func38, Try.ntmps38
  go_wp2
  go_ret
  refine ⟨⟨_, rfl, ?_⟩, (Old.refl w).alloc _⟩
  refine Prs.mk (t := [(4, 1), (0, 2), (2, 3), (7, 2), (1, 1)]) (cap := 5) (by decide) (by decide) (fun i hi => ?_) (fun i hi => ?_)
  · match i, hi with
    | 0, _ | 1, _ | 2, _ | 3, _ | 4, _ => simp [go_sem, p0]
  · match i, hi with
    | 0, _ | 1, _ | 2, _ | 3, _ | 4, _ => simp [go_sem, p1]

theorem ret_chk {t : List (Int × Int)} {n a b : Int} (h : chk t n = (a, b)) : Ending.returned (.tuple #[.int .i64 a, .int .i64 b]) = .returned (.tuple #[.int .i64 (chk t n).1, .int .i64 (chk t n).2]) := by rw [h]

set_option maxHeartbeats 800000 in
theorem check_any (t : List (Int × Int)) (n : Int) (v : Value) (w : World) (hT : Prs w v t) (hn9 : n ≤ 9223372036854775807) :
    Calls Try.prog 19 #[v, .int .i64 n] w fun e w' => e = .returned (.tuple #[.int .i64 (chk t n).1, .int .i64 (chk t n).2]) ∧ Old w w' := by
  obtain ⟨a, cap, b, off, rfl, hn1, hn2, ha, ht0, ht1⟩ := hT
  have hmm := @run_makeMap Try.prog
  by_cases hlen : 1000 < t.length
  · go_enter Try.func19, Try.ntmps19
    go_wp2_with fail
    go_ret2
    exact ⟨ret_chk (by rw [chk, if_pos hlen]), Old.refl _⟩
  · have hl : t.length ≤ 1000 := by omega
    have Hchk := Lib.hid (show chk t n = chkFrom t n 0 by rw [chk, if_neg hlen])
    clear hlen
    go_enter Try.func19, Try.ntmps19
    go_wp2_with fail
    go_loopw [7, 16] (fun ah j wr => ∃ k : Nat, k ≤ t.length ∧ j = .int .i64 k ∧ ah = .int .i64 (ahead t k) ∧ 0 ≤ ahead t k ∧ ahead t k ≤ 8 ∧ chkFrom t n k = chkFrom t n 0 ∧ MapII Try.prog 3 3 wr w.heap.size k (cntP t k) ∧ Old w wr) (fun _ j _ => t.length - (intOf j).toNat)
    case atStart => exact ⟨0, by omega, rfl, rfl, by simp [ahead], by simp [ahead], rfl, by rw [cntP_zero]; exact MapII.made _ _ _ _, (Old.refl _).alloc _⟩
    case round =>
      obtain ⟨k, hk, rfl, rfl, hah0, hah8, hat, hmap, hold⟩ := hrel
      have hat' := Lib.hid hat
      clear hat
      by_cases hlt : k < t.length
      · obtain rfl := ha (by omega)
        have hcn := cntP_nonneg t k (p0 t k)
        go_wp2_with (first
          | (go_at_call 46; refine (level_any _ _ _ hah0 hah8).mono ?_; rintro e w1 ⟨rfl, rfl⟩)
          | (at_lookup; refine wpList_lookup_mii rfl _ _ 79 rfl 3 3 Try.underlying3 Try.underlying79 Try.underlying3 zeroInt w.heap.size k (cntP t k) rfl (hmap.old (by first | exact (Old.refl _).alloc _ | assumption)) (p0 t k) rfl ⟨by omega, by omega⟩ ?_)
          | (at_mapUpdate; refine wpList_update_mii (w0 := w) rfl _ _ _ 79 rfl 3 3 Try.underlying3 Try.underlying79 Try.underlying3 w.heap.size k (cntP t k) rfl (hmap.old (by first | exact (Old.refl _).alloc _ | assumption)) (by omega) (p0 t k) (cntP t k (p0 t k) + 1) rfl ⟨by omega, by omega⟩ rfl ⟨by omega, by omega⟩ (hold.alloc _) (Nat.le_refl _) ?_; intro w1 hmap1 hold1 hg1; have g1 : w1.cell? ⟨wr.heap.size, 1, none⟩ = some (.int .i64 (p1 t k)) := hg1.cell (by simp [go_sem]) (by have := hmap.lt; simp; omega)))
        · go_ret2
          exact ⟨ret_chk (by rw [Hchk.out, ← hat'.out]; exact chkFrom_stop hlt (badAt_range (by omega)) (by decide)), hold.alloc _⟩
        · go_ret2
          exact ⟨ret_chk (by rw [Hchk.out, ← hat'.out]; exact chkFrom_stop hlt (badAt_level (by omega) (by omega) (by simpa using ‹(!levelB (p1 t k) (ahead t k)) = true›)) (by decide)), hold.alloc _⟩
        · go_ret2
          exact ⟨ret_chk (by rw [Hchk.out, ← hat'.out]; exact chkFrom_stop hlt (badAt_twice (by omega) (by omega) (by simpa using ‹(!levelB (p1 t k) (ahead t k)) = false›) (seenB_yes ‹_›)) (by decide)), hold.alloc _⟩
        · have hlev : levelB (p1 t k) (ahead t k) = true := by simpa using ‹(!levelB (p1 t k) (ahead t k)) = false›
          have hr := levelB_range hlev
          go_roundw
          case rel => exact ⟨k + 1, by omega, by go_num, by rw [ahead_succ], by rw [ahead_succ]; omega, by rw [ahead_succ]; omega, by rw [← hat'.out]; exact (chkFrom_go hlt (badAt_fine (by omega) (by omega) hlev (seenB_no ‹_›))).symm, by rw [cntP_succ]; exact hmap1, hold1⟩
          case measure => simp [intOf]; omega
        · go_ret2
          exact ⟨ret_chk (by rw [Hchk.out, ← hat'.out]; exact chkFrom_stop hlt (badAt_range (by omega)) (by decide)), hold.alloc _⟩
      · have he := Lib.hid (chkFrom_end (n := n) hlt)
        go_wp2_with fail
        go_ret2
        exact ⟨ret_chk (by rw [Hchk.out, ← hat'.out, he.out]), hold⟩
end Go.Proofs.Ytigpjfebnppejaa
