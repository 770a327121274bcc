/-
  WALKS D: the range over what stands below: below, its iterator; End, Kids.
-/
import Derived.Test.YtigpjfebnppejaaTocWalksC
import Derived.Test.YtigpjfebnppejaaRange
import Derived.Test.YtigpjfebnppejaaOwn
namespace Go.Proofs.Ytigpjfebnppejaa
open Go.RowKit Go.Maps Go.Shelf
attribute [local go_sem] Old.refl Old.alloc Old.drew Old.setCell OldW.old Oper.semAt_some

set_option maxHeartbeats 400000 in
theorem below_any (i : Int) (a : Option Addr) (n c : Nat) (w : World) :
    Calls Try.prog 41 #[.slice a n c, .int .i64 i] w fun e w' => e = .returned (.func (.func 54) #[] #[.pointer (some ⟨w.heap.size + 1, 0, none⟩), .pointer (some ⟨w.heap.size, 0, none⟩)]) ∧
      (w.alloc (.cells #[.slice a n c] 22)).alloc (.cells #[.int .i64 i] 3) = w' := by
  have hmf : ∀ (fn : Fn) (first cap : Array Value) (w : World), (Instr.makeFunc fn first cap).run Try.prog w = .ok (.func fn first cap) w := fun _ _ _ _ => rfl
  go_enter Try.func41, Try.ntmps41
  go_wp2
  go_ret
  exact ⟨rfl, rfl⟩

set_option maxRecDepth 100000 in
set_option maxHeartbeats 2000000 in
theorem below1_stops (n : Nat) (t : List (Int × Int)) (i : Nat) (v : Value) (w0 w : World) (n₁ nb bi bt : Nat) (hi : i < t.length) (hlen : t.length ≤ 1000) (hT : Prs w0 v t) (h0w : Old w0 w)
    (hn1 : n₁ ≤ w.heap.size) (hn0 : w0.heap.size ≤ n₁) (hnb : w0.heap.size ≤ nb) (hbi : bi < n₁) (hbi' : bi ≠ nb) (hbt : bt < n₁) (hbt' : bt ≠ nb)
    (hci : w.cell? ⟨bi, 0, none⟩ = some (.int .i64 i)) (hct : w.cell? ⟨bt, 0, none⟩ = some v) :
    SeqStopsK Fence.wide n Try.prog 54 #[.pointer (some ⟨bi, 0, none⟩), .pointer (some ⟨bt, 0, none⟩)] (fun x : Fin t.length => #[Value.int .i64 (x.val : Int)]) (KeptBut n₁ nb)
      (fun xs => xs.map Fin.val = spanL t i) (fun _ => True) 1001 w := fun l J Jx W hW hJ hJx hY h0 => by
  have hciW := (Below.cell hW (p := ⟨bi, 0, none⟩) (by simp; omega)).trans hci
  have hctW := (Below.cell hW (p := ⟨bt, 0, none⟩) (by simp; omega)).trans hct
  have hTW := hT.old (h0w.trans hW)
  have h0W : Old w0 W := h0w.trans hW
  refine callsIn_of_wp Try.func54 rfl trivial ?_ rfl
  simp only [Try.ntmps54, List.size_toArray, List.length_cons, List.length_nil, Nat.reduceAdd, Nat.reduceSub, Array.replicate_succ, Array.replicate_zero, List.push_toArray, List.append_toArray, List.nil_append, List.cons_append]
  have hl8 : t.length ≤ 1000 := hlen
  gi_wp2
  gi_loopw [4] (fun p wr => ∃ (k : Nat) (pre : List (Fin t.length)), i + 1 ≤ k ∧ k ≤ t.length ∧ p = .int .i64 k ∧ endFrom t (p1 t i) k = endp t i ∧ Hid (pre.map Fin.val = List.range' (i + 1) (k - (i + 1))) ∧ J pre wr ∧ KeptBut n₁ nb W wr) (fun p _ => t.length - (intOf p).toNat)
  case atStart => exact ⟨i + 1, [], by omega, by omega, by go_num, rfl, Lib.hid (by rw [Nat.sub_self]; rfl), h0, KeptBut.refl _ _ _⟩
  case round =>
    obtain ⟨k, pre, hk1, hk2, rfl, hend, hpre, hJk, hkept⟩ := hrel
    have Hend := Lib.hid hend
    clear hend
    have hTr := hTW.old (Old.refl W)
    have h0r : Old w0 wr := hkept.old h0W hn0 hnb
    have hTr := hT.old h0r
    obtain ⟨a, cap, b, off, rfl, hc1, hc2, ha, ht0, ht1⟩ := hTr
    obtain rfl := ha (by omega)
    have hcir := later ((hkept.cell (p := ⟨bi, 0, none⟩) hbi hbi').trans hciW)
    have hctr := later ((hkept.cell (p := ⟨bt, 0, none⟩) hbt hbt').trans hctW)
    have hle := Below.size hW
    by_cases hlt : k < t.length
    · by_cases hdeep : p1 t i < p1 t k
      · have hd : decide (p1 t i < p1 t k) = true := by simpa using hdeep
        have hd2 : decide (k < t.length) = true := by simpa using hlt
        gi_wp2
        refine wpIn_wide.2 (wp_region_old (Old.refl wr) (by kernel_rfl) (by kernel_rfl) ?_)
        repeat (go_big_quiet_step (fail))
        refine wpQuiet_nil ?_
        rintro ⟨wq, hq⟩
        dsimp only
        have hJq : J pre wq := hJ _ _ _ none hJk (Old.grownBy hq none) (fun r e => by cases e)
        have hkq : KeptBut n₁ nb W wq := hkept.trans (KeptBut.of_old hq (by have := hkept.size; omega))
        obtain ⟨fn, tmps, assign, body, hy, hR⟩ := hY _ ⟨k, hlt⟩ wq hJq (by have := congrArg List.length hpre.out; rw [List.length_map, List.length_range'] at this; omega)
        dsimp only at hy
        gi_wp2
        refine ⟨fun hd => by simp [Fence.wide] at hd, ?_⟩
        refine hR.mono ?_
        rintro e W3 (⟨rfl, hJ3, hk3⟩ | ⟨rfl, hJx3⟩)
        · gi_wp2
          go_roundw
          case rel => exact ⟨k + 1, _, by omega, by omega, by go_num, by rw [← Hend.out, endFrom_go hlt hdeep], Lib.hid (by rw [span_snoc _ _ hk1, List.map_append, hpre.out]; rfl), hJ3, hkq.trans hk3⟩
          case measure => simp [intOf]; omega
        · gi_wp2
          refine bodyPost_ret (results_none rfl _ _ _) rfl ?_
          exact ⟨⟨_, rfl⟩, .inr ⟨_, trivial, hJx3⟩⟩
      · have hd : decide (p1 t i < p1 t k) = false := by simpa using hdeep
        have hd2 : decide (k < t.length) = true := by simpa using hlt
        have Hout := Lib.hid (endFrom_out (l := p1 t i) (t := t) (k := k) (by omega))
        gi_wp2
        refine wpIn_wide.2 (wp_region_old (Old.refl wr) (by kernel_rfl) (by kernel_rfl) ?_)
        repeat (go_big_quiet_step (fail))
        refine wpQuiet_nil ?_
        rintro ⟨wq, hq⟩
        dsimp only
        have hJq : J pre wq := hJ _ _ _ none hJk (Old.grownBy hq none) (fun r e => by cases e)
        gi_wp2
        go_end0
        exact ⟨⟨_, rfl⟩, .inl ⟨_, by unfold spanL; rw [← Hend.out, Hout.out]; exact hpre.out, hJq⟩⟩
    · have hd2 : decide (k < t.length) = false := by simpa using hlt
      have Hout := Lib.hid (endFrom_out (l := p1 t i) (t := t) (k := k) (by omega))
      gi_wp2
      refine wpIn_wide.2 (wp_region_old (Old.refl wr) (by kernel_rfl) (by kernel_rfl) ?_)
      repeat (go_big_quiet_step (fail))
      refine wpQuiet_nil ?_
      rintro ⟨wq, hq⟩
      dsimp only
      have hJq : J pre wq := hJ _ _ _ none hJk (Old.grownBy hq none) (fun r e => by cases e)
      gi_wp2
      go_end0
      exact ⟨⟨_, rfl⟩, .inl ⟨_, by unfold spanL; rw [← Hend.out, Hout.out]; exact hpre.out, hJq⟩⟩

/-! ### End -/
set_option maxHeartbeats 400000 in
theorem End_bad (t : List (Int × Int)) (i : Int) (v : Value) (w : World) (hT : Prs w v t) (hE : (atE t i != 0) = true) :
    Calls Try.prog 14 #[v, .int .i64 i] w fun e w' => e = .returned (.tuple #[.int .i64 0, .int .i64 (atE t i)]) ∧ Old w w' := by
  have hT' := Lib.hid hT
  clear hT
  go_enter Try.func14, Try.ntmps14
  go_wp2_with (go_at_call 40; refine (at_any t i v _ hT'.out).mono ?_; rintro e w1 ⟨rfl, ho1⟩)
  go_ret2
  exact ⟨rfl, ho1⟩
set_option maxRecDepth 100000 in
set_option maxHeartbeats 2000000 in
theorem End_in (t : List (Int × Int)) (i : Nat) (v : Value) (w : World) (hT : Prs w v t) (hE : atE t i = 0) :
    Calls Try.prog 14 #[v, .int .i64 i] w fun e w' => e = .returned (.tuple #[.int .i64 (endp t i), .int .i64 0]) ∧ Old w w' := by
  have hT' := Lib.hid hT
  have hz := atE_zero hE
  have hg := Lib.hid ((goodE_zero t).1 hz.1)
  have hi : i < t.length := by omega
  have hlen := hg.out.len
  have hE' : (atE t i != 0) = false := by simp [hE]
  obtain ⟨a, cap, rfl, _, _⟩ := hT.form
  clear hE hz hT
  refine (callsIn_wide (n := 9)).1 ?_
  refine callsIn_of_wp_marks Try.func14 rfl trivial ?_ rfl
  simp only [Try.ntmps14, List.size_toArray, List.length_cons, List.length_nil, Nat.reduceAdd, Nat.reduceSub, Array.replicate_succ, Array.replicate_zero, List.push_toArray, List.append_toArray, List.nil_append, List.cons_append]
  refine wpIn_wide.2 ?_
  go_wp2_with (first
    | (go_at_call 40; refine (at_any t i _ _ hT'.out).mono ?_; rintro e w1 ⟨rfl, ho1⟩)
    | (go_at_call 41; refine (below_any i _ _ _ _).mono ?_; rintro e w2 ⟨rfl, rfl⟩))
  have hs0 : w.heap.size ≤ w1.heap.size := ho1.size
  have hold0 : Old w (((w1.alloc (.cells #[.int .i64 ((i : Int) + 1)] 3)).alloc (.cells #[.slice a t.length cap] 22)).alloc (.cells #[.int .i64 i] 3)) := ((ho1.alloc _).alloc _).alloc _
  have hb0 : (((w1.alloc (.cells #[.int .i64 ((i : Int) + 1)] 3)).alloc (.cells #[.slice a t.length cap] 22)).alloc (.cells #[.int .i64 i] 3)).cell? ⟨w1.heap.size, 0, none⟩ = some (.int .i64 ((i : Int) + 1)) := by simp [go_sem]
  have hf0 : (((w1.alloc (.cells #[.int .i64 ((i : Int) + 1)] 3)).alloc (.cells #[.slice a t.length cap] 22)).alloc (.cells #[.int .i64 i] 3)).frozen? ⟨w1.heap.size, 0, none⟩ = false := by simp [go_sem]
  have hb1 : (((w1.alloc (.cells #[.int .i64 ((i : Int) + 1)] 3)).alloc (.cells #[.slice a t.length cap] 22)).alloc (.cells #[.int .i64 i] 3)).cell? ⟨w1.heap.size + 1, 0, none⟩ = some (.slice a t.length cap) := by simp [go_sem]
  have hb2 : (((w1.alloc (.cells #[.int .i64 ((i : Int) + 1)] 3)).alloc (.cells #[.slice a t.length cap] 22)).alloc (.cells #[.int .i64 i] 3)).cell? ⟨w1.heap.size + 1 + 1, 0, none⟩ = some (.int .i64 i) := by simp [go_sem]
  have hsz : (((w1.alloc (.cells #[.int .i64 ((i : Int) + 1)] 3)).alloc (.cells #[.slice a t.length cap] 22)).alloc (.cells #[.int .i64 i] 3)).heap.size = w1.heap.size + 1 + 1 + 1 := by simp
  generalize (((w1.alloc (.cells #[.int .i64 ((i : Int) + 1)] 3)).alloc (.cells #[.slice a t.length cap] 22)).alloc (.cells #[.int .i64 i] 3)) = W0 at *
  refine (wpIn_wide (n := 9)).1 ?_
  refine wpIn_rangeFunc_ownF (F := Fence.wide) (n := 9) rfl (by decide) (gf := 54) (lb := #[.pointer (some ⟨w1.heap.size + 1 + 1, 0, none⟩), .pointer (some ⟨w1.heap.size + 1, 0, none⟩)]) rfl trivial (enters_of Try.func54 (by kernel_rfl) rfl)
    (below1_stops 8 t i _ w W0 W0.heap.size w1.heap.size (w1.heap.size + 1 + 1) (w1.heap.size + 1) hi hlen hT'.out hold0 (Nat.le_refl _) (by omega) (by omega) (by omega) (by omega) (by omega) (by omega) hb2 hb1)
    KeptBut.trans (keptK_b (Nat.le_refl _)) (Below.refl _ _) (fun _ => rfl)
    (fun pre W => (W.cell? ⟨w1.heap.size, 0, none⟩ = some (.int .i64 (endOf i (pre.map Fin.val))) ∧ W.frozen? ⟨w1.heap.size, 0, none⟩ = false) ∧ KeptBut W0.heap.size w1.heap.size W0 W)
    (fun _ _ _ => False)
    (OwnFrom.and (Own.from (fun s A B row hs hg hr => ⟨cell_kept hs.1 hg hr, (frozen_kept hs.1 hg hr).trans hs.2⟩) _) (ownFrom_kept (Nat.le_refl _) (Nat.le_refl _)))
    (fun _ _ _ _ _ hs _ _ => hs)
    ⟨⟨hb0, hf0⟩, KeptBut.refl _ _ _⟩
    (fun x => { tmps := #[.slice a t.length cap, .int .i64 i, undef, undef, .int .i64 0, .int .i64 0, .int .i64 (atE t i), .pointer (some ⟨w1.heap.size, 0, none⟩), .int .i64 x.val, .slice a t.length cap, .int .i64 i, .int .i64 (atE t i), .int .i64 (atE t i), .bool false, undef, .int .i64 i, .int .i64 ((i : Int) + 1), .slice a t.length cap, .int .i64 i, .func (.func 54) #[] #[.pointer (some ⟨w1.heap.size + 1 + 1, 0, none⟩), .pointer (some ⟨w1.heap.size + 1, 0, none⟩)], .int .i64 x.val, undef, undef, undef], defers := [] }) ?assign ?body ?done ?stop
  case assign =>
    intro l x W K hK
    gi_wp2
    exact hK
  case body =>
    rintro l pre ⟨x, hx⟩ W ⟨⟨hc, hf⟩, hk⟩ _
    have Hc := Lib.hid hc
    clear hc
    have hc : W.cell? ⟨w1.heap.size, 0, none⟩ = some (.int .i64 (endOf i (pre.map Fin.val))) := Hc.out
    dsimp only
    gi_wp2
    exact ⟨KeepsOthers.setCell _ _ _, KeptBut.setCell _ _ _, ⟨by rw [List.map_append]; simp only [List.map_cons, List.map_nil]; rw [endOf_snoc]; exact World.cell?_setCell_same' _ _ _ (by rw [hc]; rfl), by rw [World.frozen?_setCell]; exact hf⟩, hk.trans (KeptBut.setCell _ _ _)⟩
  case done =>
    rintro D xs W hD hxs ⟨⟨hc, _⟩, hk⟩ hK
    rw [hxs] at hc
    clear hxs
    go_wp2_with fail
    refine ⟨by simp, .inl ⟨_, _, rfl, run_takeDeferred hK, ?_⟩⟩
    refine ⟨_, results_tmp2 rfl _ _ _, by rw [endOf_span t i hi]; rfl, ?_⟩
    have h2 := keptK_b (b := w1.heap.size) (w := W0) (Nat.le_refl _) W D _ (.deferred none) hD hK rfl rfl
    exact (hk.trans h2).old hold0 (by omega) (by omega)
  case stop =>
    rintro D c pre W _ _ h _
    exact h.elim

/-! ### Kids -/
set_option maxHeartbeats 800000 in
theorem Kids_bad (t : List (Int × Int)) (i : Int) (v : Value) (w : World) (hT : Prs w v t) (hi : (i == -1) = false) (hE : (atE t i != 0) = true) :
    Calls Try.prog 11 #[v, .int .i64 i] w fun e w' => e = .returned (.tuple #[.slice none 0 0, .int .i64 (atE t i)]) ∧ Old w w' := by
  obtain ⟨a, cap, rfl, _, _⟩ := hT.form
  have hT' := Lib.hid hT
  clear hT
  go_enter Try.func11, Try.ntmps11
  go_wp2_with (go_at_call 40; refine (Calls.old ((((Old.refl w).alloc _).alloc _).alloc _) (at_any t i _ _ (hT'.out.old ((((Old.refl w).alloc _).alloc _).alloc _)))).mono ?_; rintro e w1 ⟨rfl, ho1⟩)
  go_ret2
  exact ⟨rfl, ho1⟩
set_option maxHeartbeats 800000 in
theorem Kids_root_bad (t : List (Int × Int)) (v : Value) (w : World) (hT : Prs w v t) (hE : (goodE t != 0) = true) :
    Calls Try.prog 11 #[v, .int .i64 (-1)] w fun e w' => e = .returned (.tuple #[.slice none 0 0, .int .i64 (goodE t)]) ∧ Old w w' := by
  obtain ⟨a, cap, rfl, _, _⟩ := hT.form
  have hT' := Lib.hid hT
  clear hT
  go_enter Try.func11, Try.ntmps11
  go_wp2_with (go_at_call 39; refine (Calls.old ((((Old.refl w).alloc _).alloc _).alloc _) (good_any t _ _ (hT'.out.old ((((Old.refl w).alloc _).alloc _).alloc _)))).mono ?_; rintro e w1 ⟨rfl, ho1⟩)
  go_ret2
  exact ⟨rfl, ho1⟩
set_option maxRecDepth 100000 in
set_option maxHeartbeats 2000000 in
theorem Kids_in (t : List (Int × Int)) (i : Nat) (v : Value) (w : World) (hT : Prs w v t) (hE : atE t i = 0) :
    Calls Try.prog 11 #[v, .int .i64 i] w fun e w' => RetOwnE 3 w w' ((kids t i).map Int.ofNat) 0 e ∧ Old w w' := by
  have hT' := Lib.hid hT
  have hz := atE_zero hE
  have hg := Lib.hid ((goodE_zero t).1 hz.1)
  have hi : i < t.length := by omega
  have hlen := hg.out.len
  have hE' : (atE t i != 0) = false := by simp [hE]
  have hi' : ((i : Int) == -1) = false := by simp
  obtain ⟨a, cap, rfl, _, _⟩ := hT.form
  clear hE hz hT
  refine (callsIn_wide (n := 9)).1 ?_
  refine callsIn_of_wp_marks Try.func11 rfl trivial ?_ rfl
  simp only [Try.ntmps11, List.size_toArray, List.length_cons, List.length_nil, Nat.reduceAdd, Nat.reduceSub, Array.replicate_succ, Array.replicate_zero, List.push_toArray, List.append_toArray, List.nil_append, List.cons_append]
  refine wpIn_wide.2 ?_
  go_wp2_with (first
    | (go_at_call 40; refine (at_any t i _ _ (hT'.out.old ((((Old.refl w).alloc _).alloc _).alloc _))).mono ?_; rintro e w1 ⟨rfl, ho1⟩; have c0 : w1.cell? ⟨w.heap.size, 0, none⟩ = some (.slice a t.length cap) := ho1.cell (by simp [go_sem]); have c1 : w1.cell? ⟨w.heap.size + 1, 0, none⟩ = some (.int .i64 i) := ho1.cell (by simp [go_sem]); have b2 := box3 ho1)
    | (go_at_call 41; refine (below_any i _ _ _ _).mono ?_; rintro e w2 ⟨rfl, rfl⟩))
  have hs1 : w.heap.size + 1 + 1 < w1.heap.size := b2.lt
  have ho1' : Old w w1 := ((((Old.refl w).alloc _).alloc _).alloc _).trans ho1
  have hold0 : Old w ((w1.alloc (.cells #[.slice a t.length cap] 22)).alloc (.cells #[.int .i64 i] 3)) := (ho1'.alloc _).alloc _
  have hw10 : Old w1 ((w1.alloc (.cells #[.slice a t.length cap] 22)).alloc (.cells #[.int .i64 i] 3)) := ((Old.refl w1).alloc _).alloc _
  have hb1 : ((w1.alloc (.cells #[.slice a t.length cap] 22)).alloc (.cells #[.int .i64 i] 3)).cell? ⟨w1.heap.size, 0, none⟩ = some (.slice a t.length cap) := by simp [go_sem]
  have hb2 : ((w1.alloc (.cells #[.slice a t.length cap] 22)).alloc (.cells #[.int .i64 i] 3)).cell? ⟨w1.heap.size + 1, 0, none⟩ = some (.int .i64 i) := by simp [go_sem]
  have hsz : ((w1.alloc (.cells #[.slice a t.length cap] 22)).alloc (.cells #[.int .i64 i] 3)).heap.size = w1.heap.size + 1 + 1 := by simp
  generalize ((w1.alloc (.cells #[.slice a t.length cap] 22)).alloc (.cells #[.int .i64 i] 3)) = W0 at *
  refine (wpIn_wide (n := 9)).1 ?_
  refine wpIn_rangeFunc_ownF (F := Fence.wide) (n := 9) rfl (by decide) (gf := 54) (lb := #[.pointer (some ⟨w1.heap.size + 1, 0, none⟩), .pointer (some ⟨w1.heap.size, 0, none⟩)]) rfl trivial (enters_of Try.func54 (by kernel_rfl) rfl)
    (below1_stops 8 t i _ w W0 W0.heap.size (w.heap.size + 1 + 1) (w1.heap.size + 1) w1.heap.size hi hlen hT'.out hold0 (Nat.le_refl _) (by omega) (by omega) (by omega) (by omega) (by omega) (by omega) hb2 hb1)
    KeptBut.trans (keptK_b (Nat.le_refl _)) (Below.refl _ _) (fun _ => rfl)
    (fun pre W => (∃ u, Boxed W (w.heap.size + 1 + 1) 25 u ∧ W.ownsRow W0.heap.size 3 1 u ((kidsBelow t i (pre.map Fin.val)).map Int.ofNat).length (((kidsBelow t i (pre.map Fin.val)).map Int.ofNat).map (.int .i64)) ∧ True) ∧ KeptBut W0.heap.size (w.heap.size + 1 + 1) W0 W)
    (fun _ _ _ => False)
    (OwnFrom.and (Own.from (holdsRow_own W0.heap.size (w.heap.size + 1 + 1) 25 3 1 (fun pre : List (Fin t.length) => ((kidsBelow t i (pre.map Fin.val)).map Int.ofNat).length) (fun pre : List (Fin t.length) => ((kidsBelow t i (pre.map Fin.val)).map Int.ofNat).map (.int .i64)) (fun _ _ => True)) _) (ownFrom_kept (Nat.le_refl _) (Nat.le_refl _)))
    (fun _ _ _ _ _ hs _ _ => hs)
    ⟨⟨_, (hw10.block _ hs1).trans b2, World.ownsRow_nil _ _ _ _, trivial⟩, KeptBut.refl _ _ _⟩
    (fun x => { tmps := #[.slice a t.length cap, .int .i64 i, .pointer (some ⟨w.heap.size, 0, none⟩), .pointer (some ⟨w.heap.size + 1, 0, none⟩), .slice none 0 0, .int .i64 0, .pointer (some ⟨w.heap.size + 1 + 1, 0, none⟩), undef, undef, undef, .int .i64 (atE t i), .int .i64 x.val, .int .i64 i, .bool false, undef, undef, undef, undef, undef, undef, undef, undef, undef, undef, undef, undef, undef, undef, undef, undef, undef, undef, undef, undef, undef, .slice a t.length cap, .int .i64 i, .int .i64 (atE t i), .int .i64 (atE t i), .bool false, undef, .slice a t.length cap, .int .i64 i, .func (.func 54) #[] #[.pointer (some ⟨w1.heap.size + 1, 0, none⟩), .pointer (some ⟨w1.heap.size, 0, none⟩)], .int .i64 x.val, undef, undef, undef, undef, undef, undef, undef, undef, undef, undef, undef, undef, undef, undef, undef, undef, undef], defers := [] }) ?assign ?body ?done ?stop
  case assign =>
    intro l x W K hK
    gi_wp2
    exact hK
  case body =>
    rintro l pre ⟨x, hx⟩ W ⟨⟨u, hbox, hown, _⟩, hk⟩ hpl
    have hown : OwnI 3 W0 W u ((kidsBelow t i (pre.map Fin.val)).map Int.ofNat) := hown
    have hl1 : ((kidsBelow t i (pre.map Fin.val)).map Int.ofNat).length ≤ 1001 := by
      have := List.length_filter_le (fun k => p1 t k == p1 t i + 1) (pre.map Fin.val)
      rw [List.length_map] at this ⊢
      unfold kidsBelow
      omega
    have hTW := hT'.out.old (hk.old hold0 (by omega) (by omega))
    obtain ⟨_, _, b, off, e, hc1, hc2, ha, ht0, ht1⟩ := hTW
    obtain ⟨rfl, _, rfl⟩ := Value.slice.inj e
    obtain rfl := ha (by omega)
    have hlev := hg.out.lev i hi
    have c0W := later ((hk.cell (p := ⟨w.heap.size, 0, none⟩) (by simp; omega) (by simp; omega)).trans (hw10.cell c0))
    have c1W := later ((hk.cell (p := ⟨w.heap.size + 1, 0, none⟩) (by simp; omega) (by simp; try omega)).trans (hw10.cell c1))
    have hsnoc := kidsBelow_snoc t i (pre.map Fin.val) x
    have hmap : (pre ++ [(⟨x, hx⟩ : Fin t.length)]).map Fin.val = pre.map Fin.val ++ [x] := by rw [List.map_append]; rfl
    have Hsnoc := Lib.hid hsnoc
    have Hmap := Lib.hid hmap
    clear hsnoc hmap
    dsimp only
    gi_wp2
    refine wpIn_region_old (Old.refl W) (by kernel_rfl) (by kernel_rfl) (by kernel_rfl) ?_
    repeat (go_big_quiet_step (fail))
    refine wpQuiet_nil ?_
    rintro ⟨wq, hq⟩
    dsimp only
    have hboxq : Boxed wq (w.heap.size + 1 + 1) 25 u := (hq.block _ hbox.lt).trans hbox
    have hcq := hboxq.cell
    have hownq := hown.old hq
    have hqs := hq.size
    have hks := hk.size
    have hkq : KeptBut W0.heap.size (w.heap.size + 1 + 1) W wq := KeptBut.of_old hq (by omega)
    have hnr : some (w.heap.size + 1 + 1) ≠ u.ownBlock := hboxq.not_row (by decide) hownq
    gi_wp2_with (gi_at_builtin; refine wpListIn_append_int (w0 := W0) rfl _ _ 25 rfl 3 Try.underlying25 infoInt _ _ rfl (hownq.alloc _) wq.heap.size x rfl (by simp [go_sem]) (by omega) (by simp; omega) ?_; intro v' w3 hown3 hg3; obtain ⟨g', cap', rfl, _, _⟩ := ownsRow_form hown3; have hb3 := (hboxq.alloc (.cells #[.int .i64 (x : Int)] 3)).kept hg3 hnr; have hc3 := hb3.cell; have hf3 := hb3.frozen)
    · refine ⟨((((keepsOthers_old hq).trans (KeepsOthers.alloc _ _)).trans (keepsOthers_row (hownq.alloc _) hg3)).trans (KeepsOthers.setCell _ _ _)), ?_, ⟨⟨_, hb3.set _, ?_, trivial⟩, ?_⟩⟩
      · exact ((hkq.trans (KeptBut.of_old ((Old.refl wq).alloc _) (by omega))).trans (KeptBut.grown hg3 (by simp; omega) (fun k e => .inl (World.ownsRow.lt hownq k e).1))).trans (KeptBut.setCell _ _ _)
      · rw [Hmap.out, Hsnoc.out, if_pos (by assumption), List.map_append]
        have h9 := ownsRow_setCell_below (a := ⟨w.heap.size + 1 + 1, 0, none⟩) hown3 (by show w.heap.size + 1 + 1 < W0.heap.size; omega) (.slice g' ((kidsBelow t i (pre.map Fin.val)).length + 1) cap')
        simpa using h9
      · exact hk.trans (((hkq.trans (KeptBut.of_old ((Old.refl wq).alloc _) (by omega))).trans (KeptBut.grown hg3 (by simp; omega) (fun k e => .inl (World.ownsRow.lt hownq k e).1))).trans (KeptBut.setCell _ _ _))
    · rename_i hne
      refine ⟨keepsOthers_old hq, hkq, ⟨⟨_, hboxq, ?_, trivial⟩, hk.trans hkq⟩⟩
      rw [Hmap.out, Hsnoc.out, if_neg (by rw [hne]; decide)]
      exact hownq
  case done =>
    rintro D xs W hD hxs ⟨⟨u, hbox, hown, _⟩, hk⟩ hK
    rw [hxs, hg.out.kids_below i hi] at hown
    have hc := hbox.cell
    go_wp2_with fail
    refine ⟨by simp, .inl ⟨_, _, rfl, run_takeDeferred hK, ?_⟩⟩
    have h2 := keptK_b (b := w.heap.size + 1 + 1) (w := W0) (Nat.le_refl _) W D _ (.deferred none) hD hK rfl rfl
    have hown' : OwnI 3 W0 (W.putObj D (.deferred none)) u ((kids t (i : Int)).map Int.ofNat) := ownsRow_putObj hown _ hK rfl
    exact ⟨_, results_tmp2 rfl _ _ _, ⟨_, rfl, hown'.lower hold0.size⟩, (hk.trans h2).old hold0 (by omega) (by omega)⟩
  case stop =>
    rintro D c pre W _ _ h _
    exact h.elim

def rootsTo (t : List (Int × Int)) (k : Nat) : List Int := ((List.range k).filter fun j => p1 t j == 1).map Int.ofNat
theorem rootsTo_yes {t : List (Int × Int)} {k : Nat} (h : (p1 t k == 1) = true) : rootsTo t (k + 1) = rootsTo t k ++ [(k : Int)] := by
  simp [rootsTo, List.range_succ, List.filter_append, h]
theorem rootsTo_no {t : List (Int × Int)} {k : Nat} (h : (p1 t k == 1) = false) : rootsTo t (k + 1) = rootsTo t k := by
  simp [rootsTo, List.range_succ, List.filter_append, h]
theorem rootsTo_len (t : List (Int × Int)) (k : Nat) : (rootsTo t k).length ≤ k := by
  unfold rootsTo
  have := List.length_filter_le (fun j => p1 t j == 1) (List.range k)
  simpa using this
set_option maxRecDepth 100000 in
set_option maxHeartbeats 2000000 in
theorem Kids_root (t : List (Int × Int)) (v : Value) (w : World) (hT : Prs w v t) (hE : goodE t = 0) :
    Calls Try.prog 11 #[v, .int .i64 (-1)] w fun e w' => RetOwnE 3 w w' ((kids t (-1)).map Int.ofNat) 0 e ∧ Old w w' := by
  have hT' := Lib.hid hT
  have hg := Lib.hid ((goodE_zero t).1 hE)
  have hlen := hg.out.len
  have hE' : (goodE t != 0) = false := by simp [hE]
  obtain ⟨a, cap, rfl, _, _⟩ := hT.form
  clear hE hT
  go_enter Try.func11, Try.ntmps11
  go_wp2_with (go_at_call 39; refine (good_any t _ _ (hT'.out.old ((((Old.refl w).alloc _).alloc _).alloc _))).mono ?_; rintro e w1 ⟨rfl, ho1⟩; have c0 : w1.cell? ⟨w.heap.size, 0, none⟩ = some (.slice a t.length cap) := ho1.cell (by simp [go_sem]); have b2 := box3 ho1)
  have hs1 : w.heap.size + 1 + 1 < w1.heap.size := b2.lt
  have ho1' : Old w w1 := ((((Old.refl w).alloc _).alloc _).alloc _).trans ho1
  clear ho1
  go_loopw [21] (fun j wr => ∃ (k : Nat) (u : Value), k ≤ t.length ∧ j = .int .i64 k ∧ Boxed wr (w.heap.size + 1 + 1) 25 u ∧ OwnI 3 w wr u (rootsTo t k) ∧ Old w wr) (fun j _ => t.length - (intOf j).toNat)
  case atStart => exact ⟨0, _, by omega, rfl, b2, OwnI.nil _ _ _, ho1'⟩
  case round =>
    obtain ⟨k, u, hk, rfl, hbox, hown, hold⟩ := hrel
    have hrl := rootsTo_len t k
    clear c0 b2
    have hs2 := hbox.lt
    have hcb := hbox.cell
    by_cases hlt : k < t.length
    · have hTr := hT'.out.old hold
      obtain ⟨_, _, b, off, e, hc1, hc2, ha, ht0, ht1⟩ := hTr
      obtain ⟨rfl, _, rfl⟩ := Value.slice.inj e
      obtain rfl := ha (by omega)
      have hboxa := hbox.alloc (.cells #[.int .i64 (p0 t k), .int .i64 (p1 t k)] 34)
      have hnr : some (w.heap.size + 1 + 1) ≠ u.ownBlock := hbox.not_row (by decide) hown
      go_wp2_with (at_builtin; refine wpList_append_ints (w0 := w) rfl _ _ 25 rfl 3 Try.underlying25 infoInt _ (rootsTo t k) [(k : Int)] rfl ((hown.alloc _).alloc _) _ rfl (Ints.one' _ _ (k : Int) (by simp)) (by simp; omega) ((hold.alloc _).alloc _) ?_; intro v' w3 hown3 ho3 hg3; obtain ⟨g', cap', rfl, _, _⟩ := ownsRow_form hown3; have hb3 := (hboxa.alloc (.cells #[.int .i64 (k : Int)] 3)).kept hg3 hnr; have hc3 := hb3.cell; have hf3 := hb3.frozen)
      · have hl3 : (rootsTo t k ++ [(k : Int)]).length = (rootsTo t k).length + 1 := by simp
        have h9 : OwnI 3 w (w3.setCell ⟨w.heap.size + 1 + 1, 0, none⟩ (.slice g' ((rootsTo t k).length + 1) cap')) (.slice g' ((rootsTo t k).length + 1) cap') (rootsTo t (k + 1)) := by
          rw [rootsTo_yes ‹_›, ← hl3]
          exact hown3.kept (grownBy_setCell' _ _ _) (.inr (fun e => hb3.not_row (by decide) hown3 e.symm))
        go_roundw
        case rel => exact ⟨k + 1, _, by omega, by go_num, hb3.set _, h9, ho3.setCell (by show w.heap.size ≤ w.heap.size + 1 + 1; omega) _⟩
        case measure => simp [intOf]; omega
      · have h9 : OwnI 3 w (wr.alloc (.cells #[.int .i64 (p0 t k), .int .i64 (p1 t k)] 34)) u (rootsTo t (k + 1)) := by
          rw [rootsTo_no ‹_›]; exact hown.alloc _
        go_roundw
        case rel => exact ⟨k + 1, _, by omega, by go_num, hboxa, h9, hold.alloc _⟩
        case measure => simp [intOf]; omega
    · obtain rfl : k = t.length := by omega
      go_wp2_with fail
      go_ret2
      refine ⟨⟨_, rfl, ?_⟩, hold⟩
      rw [hg.out.kids_root]
      exact hown
end Go.Proofs.Ytigpjfebnppejaa
