/-
  TOC, TREES: the program's Tree.
-/
import Derived.Test.YtigpjfebnppejaaTocTold
import Derived.Test.YtigpjfebnppejaaTocRecs
import Derived.Test.YtigpjfebnppejaaTocWalksE
namespace Go.Proofs.Ytigpjfebnppejaa
open Go.RowKit
attribute [local go_sem] Old.refl Old.alloc Old.drew Old.setCell OldW.old

theorem Prs.oneAt (w : World) (E : TypeId) (x y : Int) {b : Nat} (hb : w.heap.size = b) : Prs (w.alloc (.cells #[.int .i64 x, .int .i64 y] E)) (.slice (some ⟨b, 0, none⟩) 1 1) [(x, y)] := by
  subst hb
  refine Prs.mk (t := [(x, y)]) (cap := 1) (by simp) (by simp) (fun i hi => ?_) (fun i hi => ?_)
  · obtain rfl : i = 0 := by simpa using hi
    simp [go_sem, p0]
  · obtain rfl : i = 0 := by simpa using hi
    simp [go_sem, p1]
set_option maxHeartbeats 1600000 in
theorem entries_same (t : List (Int × Int)) (v u : Value) (w : World) (hT : Prs w v t) (hU : Prs w u t) :
    Calls Try.prog 36 #[v, u] w fun e w' => e = .returned (.bool true) ∧ Old w w' := by
  obtain ⟨a, cap, b, off, rfl, hn1, hn2, ha, ht0, ht1⟩ := hT
  obtain ⟨a', cap', b', off', rfl, hn1', hn2', ha', hu0, hu1⟩ := hU
  go_enter Try.func36, Try.ntmps36
  go_wp2_with fail
  go_loopw [5] (fun j wr => ∃ k : Nat, k ≤ t.length ∧ j = .int .i64 k ∧ Old w wr) (fun j _ => t.length - (intOf j).toNat)
  case atStart => exact ⟨0, by omega, rfl, Old.refl _⟩
  case round =>
    obtain ⟨k, hk, rfl, hold⟩ := hrel
    by_cases hlt : k < t.length
    · obtain rfl := ha (by omega)
      obtain rfl := ha' (by omega)
      have g0 := ht0 k hlt
      have g1 := ht1 k hlt
      have g2 := hu0 k hlt
      have g3 := hu1 k hlt
      have hk1 : (k : Int) < t.length := by omega
      go_wp2_with fail
      refine wp_region_old hold (by kernel_rfl) (by kernel_rfl) ?_
      repeat (go_big_quiet_step (fail))
      refine wpQuiet_nil ?_
      rintro ⟨wq, hq⟩
      dsimp only
      go_wp2_with fail
      go_roundw
      case rel => exact ⟨k + 1, by omega, by go_num, hq⟩
      case measure => simp [intOf]; omega
    · have hk1 : ¬ (k : Int) < t.length := by omega
      go_wp2_with fail
      go_ret
      exact ⟨rfl, hold⟩
set_option maxRecDepth 100000 in
set_option maxHeartbeats 1600000 in
theorem Tree_long {name : ByteArray} {line : Int} {w : World} {v : Value} {LL : List (List Int)} (h : Srcs name line w v LL) (hlen : ∀ i, (LL.getD i []).length ≤ 1048576) (htot : 1000 < totL LL LL.length) :
    Calls Try.prog 34 #[v] w fun e w' => (∃ u, e = .returned (.tuple #[.slice none 0 0, u]) ∧ IsErr w' u 2 0 0 0 ⟨#[]⟩) ∧ Old w w' := by
  have HS := Lib.hid h
  obtain ⟨a, cap, rfl, hc1, hc2⟩ := h.form
  have Hlen := Lib.hid hlen
  clear h hlen
  go_enter Try.func34, Try.ntmps34
  go_wp2_with fail
  go_loopw [4, 16] (fun n j wr => ∃ k : Nat, k ≤ LL.length ∧ j = .int .i64 k ∧ n = .int .i64 (totL LL k) ∧ totL LL k ≤ 1000 ∧ Old w wr) (fun _ j _ => LL.length - (intOf j).toNat)
  case atStart => exact ⟨0, by omega, rfl, rfl, by simp [totL], Old.refl _⟩
  case round =>
    obtain ⟨k, hk, rfl, rfl, ht, hold⟩ := hrel
    by_cases hlt : k < LL.length
    · obtain ⟨b, off, ax, cx, rfl, g0, g1, hx, hx1, hx2⟩ := HS.out.at' hlt
      have hk1 : (k : Int) < LL.length := by omega
      have hz := Hlen.out k
      have Hs := Lib.hid (show totL LL (k + 1) = totL LL k + (LL.getD k []).length from rfl)
      have G0 := fun V (o : Old wr V) => g0 V (hold.trans o)
      have G1 := fun V (o : Old wr V) => g1 V (hold.trans o)
      clear g0 g1 hx
      generalize (LL.getD k []).length = N at *
      generalize totL LL k = T at *
      by_cases hbig : 1000 < T + N
      · have hb1 : (1000 : Int) < (T : Int) + N := by omega
        go_wp2_with fail
        refine (FNew_any 2 0 0 0 ⟨#[]⟩ _ (by decide)).mono ?_
        rintro e w2 ⟨⟨u, rfl, hu⟩, ho2⟩
        go_wp2_with fail
        go_ret2
        exact ⟨⟨_, rfl, hu⟩, (hold.alloc _).trans ho2⟩
      · have hb1 : ¬ (1000 : Int) < (T : Int) + N := by omega
        go_wp2_with fail
        go_roundw
        case rel => exact ⟨k + 1, by omega, by go_num, by rw [Hs.out]; go_num, by rw [Hs.out]; omega, hold.alloc _⟩
        case measure => simp [intOf]; omega
    · obtain rfl : k = LL.length := by omega
      omega
set_option maxRecDepth 100000 in
set_option maxHeartbeats 1600000 in
theorem Tree_fits {name : ByteArray} {line : Int} {w : World} {v : Value} {LL : List (List Int)} (h : Srcs name line w v LL) (hlen : ∀ i, (LL.getD i []).length ≤ 1048576) (htot : totL LL LL.length ≤ 1000) :
    Calls Try.prog 34 #[v] w fun e w' => ((0 ≤ (treeAll LL 0 0 []).1 ∧ ∃ u, e = .returned (.tuple #[.slice none 0 0, u]) ∧ IsErr w' u 100 (treeAll LL 0 0 []).1 line 1 name) ∨
      ((treeAll LL 0 0 []).1 < 0 ∧ ∃ u, e = .returned (.tuple #[u, .nilIface]) ∧ Prs w' u (treeAll LL 0 0 []).2)) ∧ Old w w' := by
  have HS := Lib.hid h
  obtain ⟨a, cap, rfl, hc1, hc2⟩ := h.form
  have Hlen := Lib.hid hlen
  clear h hlen
  go_enter Try.func34, Try.ntmps34
  go_wp2_with fail
  go_loopw [4, 16] (fun n j wr => ∃ k : Nat, k ≤ LL.length ∧ j = .int .i64 k ∧ n = .int .i64 (totL LL k) ∧ totL LL k ≤ 1000 ∧ Old w wr) (fun _ j _ => LL.length - (intOf j).toNat)
  case atStart => exact ⟨0, by omega, rfl, rfl, by simp [totL], Old.refl _⟩
  case round =>
    obtain ⟨k, hk, rfl, rfl, ht, hold⟩ := hrel
    by_cases hlt : k < LL.length
    · obtain ⟨b, off, ax, cx, rfl, g0, g1, hx, hx1, hx2⟩ := HS.out.at' hlt
      have hk1 : (k : Int) < LL.length := by omega
      have hz := Hlen.out k
      have Hs := Lib.hid (show totL LL (k + 1) = totL LL k + (LL.getD k []).length from rfl)
      have hm := totL_mono LL (show k + 1 ≤ LL.length from hlt)
      rw [Hs.out] at hm
      have G0 := fun V (o : Old wr V) => g0 V (hold.trans o)
      have G1 := fun V (o : Old wr V) => g1 V (hold.trans o)
      clear g0 g1 hx
      generalize (LL.getD k []).length = N at *
      generalize totL LL k = T at *
      have hb1 : ¬ (1000 : Int) < (T : Int) + N := by omega
      go_wp2_with fail
      go_roundw
      case rel => exact ⟨k + 1, by omega, by go_num, by rw [Hs.out]; go_num, by rw [Hs.out]; omega, hold.alloc _⟩
      case measure => simp [intOf]; omega
    · obtain rfl : k = LL.length := by omega
      clear hlt hk ht
      have HT := Lib.hid (fun k (hk : k ≤ LL.length) => Nat.le_trans (totL_mono LL hk) htot)
      clear htot
      generalize (totL LL LL.length) = T at *
      go_wp2_with fail
      generalize wr = wa at *
      go_loopw [7, 8, 9, 31] (fun o n h j wr => ∃ (k num : Nat) (out : List (Int × Int)), k ≤ LL.length ∧ j = .int .i64 k ∧ n = .int .i64 num ∧ h = .int .i64 (lastL out) ∧ OwnP 34 w wr o out ∧ Hid (treeAll LL k num out = treeAll LL 0 0 []) ∧ num ≤ totL LL k ∧ out.length ≤ num ∧ Small8 out ∧ Old w wr) (fun _ _ _ j _ => LL.length - (intOf j).toNat)
      case atStart => exact ⟨0, 0, [], by omega, rfl, rfl, rfl, OwnP.nil _ _ _, Lib.hid (Eq.refl _), Nat.zero_le _, by simp, small8_nil, hold⟩
      case round =>
        obtain ⟨k, num, out, hk, rfl, rfl, rfl, hown, hat, hn, ho, hs8, hold⟩ := hrel
        by_cases hlt : k < LL.length
        · obtain ⟨b, off, ax, cx, rfl, g0, g1, hx, hx1, hx2⟩ := HS.out.at' hlt
          have hk1 : (k : Int) < LL.length := by omega
          have hz := Hlen.out k
          have G0 := fun V (o : Old wr V) => g0 V (hold.trans o)
          have G1 := fun V (o : Old wr V) => g1 V (hold.trans o)
          have Hx := Lib.hid hx
          have Hown := Lib.hid hown
          have Hon := Lib.hid (fun k' n' out' e => treeAll_on (k := k') (n' := n') (out' := out') (num := num) (out := out) hlt e)
          have Hbad := Lib.hid (treeAll_bad (num := num) (out := out) hlt)
          clear g0 g1 hx hown
          obtain ⟨ao, co, rfl, _, _⟩ := ownsRow_form Hown.out
          have hTk := HT.out (k + 1) hlt
          have Hs := Lib.hid (show totL LL (k + 1) = totL LL k + (LL.getD k []).length from rfl)
          rw [Hs.out] at hTk
          generalize LL.getD k [] = ls at *
          go_wp2_with fail
          have hold1 : Old w (wr.alloc (.cells #[.slice none 0 0, .slice ax ls.length cx] 53)) := hold.alloc _
          have Hown1 := Lib.hid (Hown.out.alloc (.cells #[.slice none 0 0, .slice ax ls.length cx] 53))
          clear Hown G0 G1
          generalize wr.alloc (.cells #[.slice none 0 0, .slice ax ls.length cx] 53) = wb at *
          clear hold
          generalize wr = wc at *
          go_loopw [7, 8, 9, 39] (fun o n h j wr => ∃ (m num' : Nat) (out' : List (Int × Int)), m ≤ ls.length ∧ j = .int .i64 m ∧ n = .int .i64 num' ∧ h = .int .i64 (lastL out') ∧ OwnP 34 w wr o out' ∧ Hid (treeIn ls m num' out' = treeIn ls 0 num out) ∧ num' ≤ num + m ∧ out'.length ≤ num' ∧ Small8 out' ∧ Old w wr) (fun _ _ _ j _ => ls.length - (intOf j).toNat)
          case atStart => exact ⟨0, num, out, by omega, rfl, rfl, rfl, Hown1.out, Lib.hid (Eq.refl _), by omega, ho, hs8, hold1⟩
          case round =>
            obtain ⟨m, num', out', hm, rfl, rfl, rfl, hown, hat', hn', ho', hs8', hold⟩ := hrel
            have Hown := Lib.hid hown
            clear hown Hown1
            obtain ⟨ao, co, rfl, _, _⟩ := ownsRow_form Hown.out
            by_cases hlt' : m < ls.length
            · obtain ⟨bt, ot, rfl, ht⟩ := topC_at Hx.out hlt'
              have hm1 : (m : Int) < ls.length := by omega
              have t0 : ∀ V, Old wr V → V.cell? ⟨bt, ot + m * 8, none⟩ = some (.int .i64 0) := fun V o => ht 0 _ rfl V (hold.trans o)
              have t1 : ∀ V, Old wr V → V.cell? ⟨bt, ot + m * 8 + 1, none⟩ = some (.string name) := fun V o => by rw [Nat.add_assoc]; exact ht 1 _ rfl V (hold.trans o)
              have t2 : ∀ V, Old wr V → V.cell? ⟨bt, ot + m * 8 + 2, none⟩ = some (.string ⟨#[]⟩) := fun V o => by rw [Nat.add_assoc]; exact ht 2 _ rfl V (hold.trans o)
              have t3 : ∀ V, Old wr V → V.cell? ⟨bt, ot + m * 8 + 3, none⟩ = some (.int .i64 (ix ls m)) := fun V o => by rw [Nat.add_assoc]; exact ht 3 _ rfl V (hold.trans o)
              have t4 : ∀ V, Old wr V → V.cell? ⟨bt, ot + m * 8 + 4, none⟩ = some (.slice none 0 0) := fun V o => by rw [Nat.add_assoc]; exact ht 4 _ rfl V (hold.trans o)
              have t5 : ∀ V, Old wr V → V.cell? ⟨bt, ot + m * 8 + 5, none⟩ = some (.slice none 0 0) := fun V o => by rw [Nat.add_assoc]; exact ht 5 _ rfl V (hold.trans o)
              have t6 : ∀ V, Old wr V → V.cell? ⟨bt, ot + m * 8 + 6, none⟩ = some (.slice none 0 0) := fun V o => by rw [Nat.add_assoc]; exact ht 6 _ rfl V (hold.trans o)
              have t7 : ∀ V, Old wr V → V.cell? ⟨bt, ot + m * 8 + 7, none⟩ = some (.int .i64 line) := fun V o => by rw [Nat.add_assoc]; exact ht 7 _ rfl V (hold.trans o)
              clear ht
              have h8a := hs8'.1
              have h8b := hs8'.2
              by_cases h0 : ix ls m = 0
              · have Ht := Lib.hid (treeIn_zero (num := num') (out := out') hlt' h0)
                rw [h0] at t3
                clear h0
                go_wp2_with fail
                go_roundw
                case rel => exact ⟨m + 1, num' + 1, out', by omega, by go_num, by go_num, rfl, Hown.out.alloc _, Lib.hid (by rw [← Ht.out]; exact hat'.out), by omega, by omega, hs8', hold.alloc _⟩
                case measure => simp [intOf]; omega
              · have hz0 : (ix ls m == 0) = false := by rw [beq_eq_false_iff_ne]; exact h0
                have Hlev := Lib.hid (fun V => level_any (ix ls m) (lastL out') V h8a h8b)
                by_cases hl : levelB (ix ls m) (lastL out') = true
                · have Ht := Lib.hid (treeIn_on (num := num') (out := out') hlt' h0 hl)
                  have H8 := Lib.hid (small8_snoc (out := out') (n := (num' : Int)) hl)
                  have HL := Lib.hid (lastL_snoc out' ((num' : Int), ix ls m))
                  rw [hl] at Hlev
                  clear hl h0
                  generalize ix ls m = X at *
                  generalize lastL out' = Y at *
                  go_wp2_with (first
                    | (go_at_call 46; refine (Hlev.out _).mono ?_; rintro e w1 ⟨rfl, rfl⟩)
                    | (at_builtin; refine wpList_append_prs (w0 := w) rfl _ _ 22 rfl 34 Try.underlying22 infoEnt _ out' [((num' : Int), X)] rfl ((Hown.out.alloc _).alloc _) _ rfl (Prs.oneAt _ 34 _ _ (by simp [go_sem])) (by simp; omega) ((hold.alloc _).alloc _) ?_; intro v' w3 hown3 ho3 _))
                  go_roundw
                  case rel => exact ⟨m + 1, num' + 1, out' ++ [((num' : Int), X)], by omega, by go_num, by go_num, by rw [HL.out], hown3, Lib.hid (by rw [← Ht.out]; exact hat'.out), by omega, by simp; omega, H8.out, ho3⟩
                  case measure => simp [intOf]; omega
                · have Ht := Lib.hid (treeIn_bad (num := num') (out := out') hlt' h0 hl)
                  have hlf : levelB (ix ls m) (lastL out') = false := by simpa using hl
                  rw [hlf] at Hlev
                  clear hl h0 hlf
                  generalize ix ls m = X at *
                  generalize lastL out' = Y at *
                  go_wp2_with (go_at_call 46; refine (Hlev.out _).mono ?_; rintro e w1 ⟨rfl, rfl⟩)
                  refine (FNew_any 100 k line 1 name _ (by decide)).mono ?_
                  rintro e w2 ⟨⟨u, rfl, hu⟩, ho2⟩
                  go_wp2_with fail
                  go_ret2
                  have hb := Hbad.out (by rw [← hat'.out, Ht.out])
                  rw [hat.out] at hb
                  exact ⟨.inl ⟨by rw [hb]; simp, _, rfl, by rw [hb]; exact hu⟩, (hold.alloc _).trans ho2⟩
            · obtain rfl : m = ls.length := by omega
              have Ht := Lib.hid (treeIn_end (num := num') (out := out') hlt')
              clear hlt' hm
              go_wp2_with fail
              go_roundw
              case rel => exact ⟨k + 1, num', out', by omega, by go_num, rfl, rfl, Hown.out, Lib.hid (by rw [← Hon.out _ _ _ (by rw [← hat'.out]; exact Ht.out)]; exact hat.out), by rw [Hs.out]; omega, ho', hs8', hold⟩
              case measure => simp [intOf]; omega
        · obtain rfl : k = LL.length := by omega
          have Ht := Lib.hid (treeAll_end (num := num) (out := out) hlt)
          have Hown := Lib.hid hown
          clear hown hlt hk
          obtain ⟨ao, co, rfl, _, _⟩ := ownsRow_form Hown.out
          go_wp2_with fail
          go_ret2
          have hb := Ht.out
          rw [hat.out] at hb
          exact ⟨.inr ⟨by rw [hb]; exact (by decide : (-1 : Int) < 0), _, rfl, by rw [hb]; exact Hown.out.prs⟩, hold⟩
end Go.Proofs.Ytigpjfebnppejaa
