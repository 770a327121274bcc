/-
  TOC, TREES: the document's Tree.
-/
import Derived.Test.YtigpjfebnppejaaTocTreeW
import Derived.StillTailTactics
namespace Go.Proofs.Ytigpjfebnppejaa
open Go.RowKit
attribute [local go_sem] Old.refl Old.alloc Old.drew Old.setCell OldW.old

def zeroW : Obj := .cells #[.int .i64 0, .int .i64 0, .int .i64 0, .int .i64 0, .string ⟨#[]⟩] 64
/-- the result's cells are there, and may be written -/
def Res (w : World) (g : Nat) : Prop := ∀ V, Old w V → (∀ j, V.frozen? ⟨g, j, none⟩ = false) ∧ V.cell? ⟨g, 0, none⟩ = some (.int .i64 0) ∧ V.cell? ⟨g, 1, none⟩ = some (.int .i64 0) ∧ V.cell? ⟨g, 2, none⟩ = some (.int .i64 0) ∧ V.cell? ⟨g, 3, none⟩ = some (.int .i64 0) ∧ V.cell? ⟨g, 4, none⟩ = some (.string ⟨#[]⟩)
theorem res_new (w : World) : Res (w.alloc zeroW) w.heap.size := fun V o => by
  refine ⟨fun j => ?_, o.cell ?_, o.cell ?_, o.cell ?_, o.cell ?_, o.cell ?_⟩
  · rw [frozen_old o (by simp [go_sem])]
    simp [go_sem, zeroW]
  all_goals simp [go_sem, zeroW]
set_option maxRecDepth 100000 in
set_option maxHeartbeats 1600000 in
theorem RTree_long {name : ByteArray} {line : Int} {w : World} {v : Value} {LL : List (List Int)} (h : Srcs name line w v LL) (hlen : ∀ i, (LL.getD i []).length ≤ 1048576) (hz : LL.length ≤ 1048576) (htot : 1000 < totL LL LL.length) :
    Calls Try.prog 35 #[v] w fun e w' => e = .returned (.tuple #[.slice none 0 0, wrongV ⟨2, 0, 0, 0, ⟨#[]⟩⟩]) ∧ Old w w' := by
  have HS := Lib.hid h
  obtain ⟨a, cap, rfl, hc1, hc2⟩ := h.form
  have Hlen := Lib.hid hlen
  have hR := res_new w
  have o1 : Old w (w.alloc zeroW) := (Old.refl w).alloc _
  unfold zeroW at hR o1
  clear h hlen
  go_enter Try.func35, Try.ntmps35
  go_wp2_with fail
  have hg : w.heap.size < (w.alloc zeroW).heap.size := by simp [go_sem]
  unfold zeroW at hg
  generalize w.alloc (.cells #[.int .i64 0, .int .i64 0, .int .i64 0, .int .i64 0, .string ⟨#[]⟩] 64) = w1 at *
  go_loopw [4, 5] (fun n j wr => ∃ k : Nat, k ≤ LL.length ∧ j = .int .i64 k ∧ n = .int .i64 (totL LL k) ∧ totL LL k ≤ k * 1048576 ∧ Old w1 wr) (fun _ j _ => LL.length - (intOf j).toNat)
  case atStart => exact ⟨0, by omega, rfl, rfl, by simp [totL], Old.refl _⟩
  case round =>
    obtain ⟨k, hk, rfl, rfl, ht, hold⟩ := hrel
    by_cases hlt : k < LL.length
    · obtain ⟨b, off, ax, cx, rfl, g0, g1, hx, hx1, hx2⟩ := HS.out.at' hlt
      have hk1 : (k : Int) < LL.length := by omega
      have hz := Hlen.out k
      have Hs := Lib.hid (show totL LL (k + 1) = totL LL k + (LL.getD k []).length from rfl)
      have G0 := fun V (o : Old wr V) => g0 V ((o1.trans hold).trans o)
      have G1 := fun V (o : Old wr V) => g1 V ((o1.trans hold).trans o)
      clear g0 g1 hx
      generalize (LL.getD k []).length = N at *
      generalize totL LL k = T at *
      go_wp2_with fail
      go_roundw
      case rel => exact ⟨k + 1, by omega, by go_num, by rw [Hs.out]; go_num, by rw [Hs.out]; omega, hold⟩
      case measure => simp [intOf]; omega
    · obtain rfl : k = LL.length := by omega
      clear hlt hk
      generalize (totL LL LL.length) = T at *
      have hb1 : (1000 : Int) < (T : Int) := by omega
      obtain ⟨fz, c0, c1, c2, c3, c4⟩ := hR wr hold
      go_wp2_with fail
      (try simp only [Exit.inBlock, Exit.then])
      refine bodyPost_ret (v := .tuple #[.slice none 0 0, wrongV ⟨2, 0, 0, 0, ⟨#[]⟩⟩]) (by simp [results, Try.results35, go_sem, c0, c1, c2, c3, c4, wrongV]) rfl ⟨rfl, ?_⟩
      have hw := o1.trans hold
      exact ((((hw.setCell (Nat.le_refl _) _).setCell (Nat.le_refl _) _).setCell (Nat.le_refl _) _).setCell (Nat.le_refl _) _).setCell (Nat.le_refl _) _
theorem Prs.one' (w : World) (E : TypeId) (x y : Int) : Prs (w.alloc (.cells #[.int .i64 x, .int .i64 y] E)) (.slice (some ⟨w.heap.size, 0, none⟩) 1 1) [(x, y)] := Prs.oneAt w E x y rfl
theorem Old.five {w0 w : World} {g : Nat} (h : Old w0 w) (hg : w0.heap.size ≤ g) (a b c d e : Value) : Old w0 (((((w.setCell ⟨g, 0, none⟩ a).setCell ⟨g, 1, none⟩ b).setCell ⟨g, 2, none⟩ c).setCell ⟨g, 3, none⟩ d).setCell ⟨g, 4, none⟩ e) :=
  ((((h.setCell hg _).setCell hg _).setCell hg _).setCell hg _).setCell hg _
theorem Prs.five {w0 w : World} {v : Value} {t : List (Int × Int)} {E : TypeId} {g : Nat} (h : OwnP E w0 w v t) (hg : g < w0.heap.size) (a b c d e : Value) : Prs (((((w.setCell ⟨g, 0, none⟩ a).setCell ⟨g, 1, none⟩ b).setCell ⟨g, 2, none⟩ c).setCell ⟨g, 3, none⟩ d).setCell ⟨g, 4, none⟩ e) v t := by
  obtain ⟨h1, h2⟩ := h
  have h3 : OwnP E w0 (((((w.setCell ⟨g, 0, none⟩ a).setCell ⟨g, 1, none⟩ b).setCell ⟨g, 2, none⟩ c).setCell ⟨g, 3, none⟩ d).setCell ⟨g, 4, none⟩ e) v t := by
    refine ⟨h1, ?_⟩
    rcases h2 with h2 | ⟨g', cap', cur, e', hb, hc, r⟩
    · exact .inl h2
    · refine .inr ⟨g', cap', cur, e', hb, ?_, r⟩
      have hne : g ≠ g' := by omega
      have ho : OldBut g w (((((w.setCell ⟨g, 0, none⟩ a).setCell ⟨g, 1, none⟩ b).setCell ⟨g, 2, none⟩ c).setCell ⟨g, 3, none⟩ d).setCell ⟨g, 4, none⟩ e) := (((((OldBut.refl g w).setCell _ _).setCell _ _).setCell _ _).setCell _ _).setCell _ _
      rw [ho.block g' (Array.getElem?_eq_some_iff.1 hc).1 (Ne.symm hne)]
      exact hc
  exact h3.prs
set_option maxRecDepth 100000 in
set_option maxHeartbeats 3200000 in
theorem RTree_fits {name : ByteArray} {line : Int} {w : World} {v : Value} {LL : List (List Int)} (h : Srcs name line w v LL) (hlen : ∀ i, (LL.getD i []).length ≤ 1048576) (htot : totL LL LL.length ≤ 1000) :
    Calls Try.prog 35 #[v] w fun e w' => ((0 ≤ (treeAll LL 0 0 []).1 ∧ e = .returned (.tuple #[.slice none 0 0, wrongV ⟨100, (treeAll LL 0 0 []).1, line, 1, name⟩])) ∨
      ((treeAll LL 0 0 []).1 < 0 ∧ ∃ u, e = .returned (.tuple #[u, wrongV ⟨0, 0, 0, 0, ⟨#[]⟩⟩]) ∧ Prs w' u (treeAll LL 0 0 []).2)) ∧ Old w w' := by
  have HS := Lib.hid h
  obtain ⟨a, cap, rfl, hc1, hc2⟩ := h.form
  have Hlen := Lib.hid hlen
  have hR := res_new w
  have o1 : Old w (w.alloc zeroW) := (Old.refl w).alloc _
  unfold zeroW at hR o1
  clear h hlen
  go_enter Try.func35, Try.ntmps35
  go_wp2_with fail
  have hg : w.heap.size < (w.alloc zeroW).heap.size := by simp [go_sem]
  unfold zeroW at hg
  generalize w.alloc (.cells #[.int .i64 0, .int .i64 0, .int .i64 0, .int .i64 0, .string ⟨#[]⟩] 64) = w1 at *
  go_loopw [4, 5] (fun n j wr => ∃ k : Nat, k ≤ LL.length ∧ j = .int .i64 k ∧ n = .int .i64 (totL LL k) ∧ totL LL k ≤ 1000 ∧ Old w1 wr) (fun _ j _ => LL.length - (intOf j).toNat)
  case atStart => exact ⟨0, by omega, rfl, rfl, by simp [totL], Old.refl _⟩
  case round =>
    obtain ⟨k, hk, rfl, rfl, ht, hold⟩ := hrel
    by_cases hlt : k < LL.length
    · obtain ⟨b, off, ax, cx, rfl, g0, g1, hx, hx1, hx2⟩ := HS.out.at' hlt
      have hk1 : (k : Int) < LL.length := by omega
      have hz := Hlen.out k
      have Hs := Lib.hid (show totL LL (k + 1) = totL LL k + (LL.getD k []).length from rfl)
      have hm := totL_mono LL (show k + 1 ≤ LL.length from hlt)
      rw [Hs.out] at hm
      have G0 := fun V (o : Old wr V) => g0 V ((o1.trans hold).trans o)
      have G1 := fun V (o : Old wr V) => g1 V ((o1.trans hold).trans o)
      clear g0 g1 hx
      generalize (LL.getD k []).length = N at *
      generalize totL LL k = T at *
      go_wp2_with fail
      go_roundw
      case rel => exact ⟨k + 1, by omega, by go_num, by rw [Hs.out]; go_num, by rw [Hs.out]; omega, hold⟩
      case measure => simp [intOf]; omega
    · obtain rfl : k = LL.length := by omega
      clear hlt hk
      have HT := Lib.hid (fun k (hk : k ≤ LL.length) => Nat.le_trans (totL_mono LL hk) htot)
      clear htot
      generalize (totL LL LL.length) = T at *
      have hb1 : ¬ (1000 : Int) < (T : Int) := by omega
      go_wp2_with fail
      clear ht hb1
      generalize wr = wa at *
      go_loopw [4, 6, 7] (fun n o j wr => ∃ (k num : Nat) (out : List (Int × Int)), k ≤ LL.length ∧ j = .int .i64 k ∧ n = .int .i64 num ∧ OwnP 34 w1 wr o out ∧ Hid (treeAll LL k num out = treeAll LL 0 0 []) ∧ num ≤ totL LL k ∧ out.length ≤ num ∧ Small8 out ∧ Old w1 wr) (fun _ _ j _ => LL.length - (intOf j).toNat)
      case atStart => exact ⟨0, 0, [], by omega, rfl, rfl, OwnP.nil _ _ _, Lib.hid (Eq.refl _), Nat.zero_le _, by simp, small8_nil, hold⟩
      case round =>
        obtain ⟨k, num, out, hk, rfl, rfl, hown, hat, hn, ho, hs8, hold⟩ := hrel
        by_cases hlt : k < LL.length
        · obtain ⟨b, off, ax, cx, rfl, g0, g1, hx, hx1, hx2⟩ := HS.out.at' hlt
          have hk1 : (k : Int) < LL.length := by omega
          have hz := Hlen.out k
          have G1 := Lib.hid g1
          have Hx := Lib.hid hx
          have Hown := Lib.hid hown
          have Hon := Lib.hid (fun k' n' out' e => treeAll_on (k := k') (n' := n') (out' := out') (num := num) (out := out) hlt e)
          have Hbad := Lib.hid (treeAll_bad (num := num) (out := out) hlt)
          clear g0 g1 hx hown
          obtain ⟨ao, co, rfl, _, _⟩ := ownsRow_form Hown.out
          have hTk := HT.out (k + 1) hlt
          have Hs := Lib.hid (show totL LL (k + 1) = totL LL k + (LL.getD k []).length from rfl)
          rw [Hs.out] at hTk
          generalize LL.getD k [] = ls at *
          go_wp2_with fail
          have hold1 := hold
          have Hown1 := Hown
          clear Hown hold
          generalize wr = wc at *
          go_loopw [4, 6, 8] (fun n o j wr => ∃ (m num' : Nat) (out' : List (Int × Int)), m ≤ ls.length ∧ j = .int .i64 m ∧ n = .int .i64 num' ∧ OwnP 34 w1 wr o out' ∧ Hid (treeIn ls m num' out' = treeIn ls 0 num out) ∧ num' ≤ num + m ∧ out'.length ≤ num' ∧ Small8 out' ∧ Old w1 wr) (fun _ _ j _ => ls.length - (intOf j).toNat)
          case atStart => exact ⟨0, num, out, by omega, rfl, rfl, Hown1.out, Lib.hid (Eq.refl _), by omega, ho, hs8, hold1⟩
          case round =>
            obtain ⟨m, num', out', hm, rfl, rfl, hown, hat', hn', ho', hs8', hold⟩ := hrel
            have Hown := Lib.hid hown
            clear hown Hown1
            obtain ⟨ao, co, rfl, _, _⟩ := ownsRow_form Hown.out
            have g1 : ∀ V, Old wr V → V.cell? ⟨b, off + k * 2 + 1, none⟩ = some (.slice ax ls.length cx) := fun V o => G1.out V ((o1.trans hold).trans o)
            by_cases hlt' : m < ls.length
            · obtain ⟨bt, ot, rfl, ht⟩ := topC_at Hx.out hlt'
              have hm1 : (m : Int) < ls.length := by omega
              have ho1 := o1.trans hold
              have t0 : ∀ V, Old wr V → V.cell? ⟨bt, ot + m * 8, none⟩ = some (.int .i64 0) := fun V o => ht 0 _ rfl V (ho1.trans o)
              have t1 : ∀ V, Old wr V → V.cell? ⟨bt, ot + m * 8 + 1, none⟩ = some (.string name) := fun V o => by rw [Nat.add_assoc]; exact ht 1 _ rfl V (ho1.trans o)
              have t2 : ∀ V, Old wr V → V.cell? ⟨bt, ot + m * 8 + 2, none⟩ = some (.string ⟨#[]⟩) := fun V o => by rw [Nat.add_assoc]; exact ht 2 _ rfl V (ho1.trans o)
              have t3 : ∀ V, Old wr V → V.cell? ⟨bt, ot + m * 8 + 3, none⟩ = some (.int .i64 (ix ls m)) := fun V o => by rw [Nat.add_assoc]; exact ht 3 _ rfl V (ho1.trans o)
              have t4 : ∀ V, Old wr V → V.cell? ⟨bt, ot + m * 8 + 4, none⟩ = some (.slice none 0 0) := fun V o => by rw [Nat.add_assoc]; exact ht 4 _ rfl V (ho1.trans o)
              have t5 : ∀ V, Old wr V → V.cell? ⟨bt, ot + m * 8 + 5, none⟩ = some (.slice none 0 0) := fun V o => by rw [Nat.add_assoc]; exact ht 5 _ rfl V (ho1.trans o)
              have t6 : ∀ V, Old wr V → V.cell? ⟨bt, ot + m * 8 + 6, none⟩ = some (.slice none 0 0) := fun V o => by rw [Nat.add_assoc]; exact ht 6 _ rfl V (ho1.trans o)
              have t7 : ∀ V, Old wr V → V.cell? ⟨bt, ot + m * 8 + 7, none⟩ = some (.int .i64 line) := fun V o => by rw [Nat.add_assoc]; exact ht 7 _ rfl V (ho1.trans o)
              clear ht
              by_cases h0 : ix ls m = 0
              · have Ht := Lib.hid (treeIn_zero (num := num') (out := out') hlt' h0)
                rw [h0] at t3
                clear h0
                go_wp2_with fail
                go_roundw
                case rel => exact ⟨m + 1, num' + 1, out', by omega, by go_num, by go_num, Hown.out.alloc _, Lib.hid (by rw [← Ht.out]; exact hat'.out), by omega, by omega, hs8', hold.alloc _⟩
                case measure => simp [intOf]; omega
              · have hz0 : (ix ls m != 0) = true := by simp [h0]
                have Hmay := Lib.hid (fun V (hV : Prs V (.slice ao out'.length co) out') => may_any out' (ix ls m) _ V hV hs8'.1 hs8'.2)
                by_cases hl : levelB (ix ls m) (lastL out') = true
                · have Ht := Lib.hid (treeIn_on (num := num') (out := out') hlt' h0 hl)
                  have H8 := Lib.hid (small8_snoc (out := out') (n := (num' : Int)) hl)
                  rw [show levelB (ix ls m) (ahead out' out'.length) = true from hl] at Hmay
                  clear hl h0
                  generalize ix ls m = X at *
                  go_wp2_with fail
                  refine (Hmay.out _ (Hown.out.alloc _).prs).mono ?_
                  rintro e w2 ⟨rfl, ho2⟩
                  have d1 := later (ho2.cell (p := ⟨wr.heap.size, 1, none⟩) (v := .string name) (by simp [go_sem]))
                  have d3 := later (ho2.cell (p := ⟨wr.heap.size, 3, none⟩) (v := .int .i64 X) (by simp [go_sem]))
                  have d7 := later (ho2.cell (p := ⟨wr.heap.size, 7, none⟩) (v := .int .i64 line) (by simp [go_sem]))
                  go_wp2_with (first
                    | (at_builtin; refine wpList_append_prs (w0 := w1) rfl _ _ 22 rfl 34 Try.underlying22 infoEnt _ out' [((num' : Int), X)] rfl (((Hown.out.alloc _).old ho2).alloc _) _ rfl (Prs.one' _ 34 _ _) (by simp; omega) (((hold.alloc _).trans ho2).alloc _) ?_; intro v' w3 hown3 ho3 _))
                  go_roundw
                  case rel => exact ⟨m + 1, num' + 1, out' ++ [((num' : Int), X)], by omega, by go_num, by go_num, hown3, Lib.hid (by rw [← Ht.out]; exact hat'.out), by omega, by simp; omega, H8.out, ho3⟩
                  case measure => simp [intOf]; omega
                · have Ht := Lib.hid (treeIn_bad (num := num') (out := out') hlt' h0 hl)
                  have hlf : levelB (ix ls m) (ahead out' out'.length) = false := by simpa [lastL] using hl
                  rw [hlf] at Hmay
                  clear hl h0 hlf
                  generalize ix ls m = X at *
                  go_wp2_with fail
                  refine (Hmay.out _ (Hown.out.alloc _).prs).mono ?_
                  rintro e w2 ⟨rfl, ho2⟩
                  have d1 := later (ho2.cell (p := ⟨wr.heap.size, 1, none⟩) (v := .string name) (by simp [go_sem]))
                  have d3 := later (ho2.cell (p := ⟨wr.heap.size, 3, none⟩) (v := .int .i64 X) (by simp [go_sem]))
                  have d7 := later (ho2.cell (p := ⟨wr.heap.size, 7, none⟩) (v := .int .i64 line) (by simp [go_sem]))
                  go_wp2_with fail
                  refine wp_region_still_tail 7 (by kernel_rfl) (by kernel_rfl) ?_
                  simp only [List.take_succ_cons, List.take_zero, List.drop_succ_cons, List.drop_zero]
                  repeat still_step
                  refine wpStill_nil ?_
                  have hold2 : Old w1 w2 := (hold.alloc _).trans ho2
                  have hold3 : Old w1 { w2 with drawn := w2.drawn + 1 } := hold2.drew
                  generalize ({ w2 with drawn := w2.drawn + 1 } : World) = w3 at hold3 ⊢
                  obtain ⟨fz, c0, c1, c2, c3, c4⟩ := hR w3 hold3
                  go_wp2_with fail
                  have hb := Hbad.out (by rw [← hat'.out, Ht.out])
                  rw [hat.out] at hb
                  (try simp only [Exit.inBlock, Exit.then])
                  refine bodyPost_ret (v := .tuple #[.slice none 0 0, wrongV ⟨100, k, line, 1, name⟩]) (by simp [results, Try.results35, go_sem, c0, c1, c2, c3, c4, wrongV]) rfl ?_
                  exact ⟨.inl ⟨by rw [hb]; simp, by rw [hb]⟩, Old.five (o1.trans hold3) (Nat.le_refl _) _ _ _ _ _⟩
            · obtain rfl : m = ls.length := by omega
              have Ht := Lib.hid (treeIn_end (num := num') (out := out') hlt')
              clear hlt' hm
              go_wp2_with fail
              go_roundw
              case rel => exact ⟨k + 1, num', out', by omega, by go_num, rfl, Hown.out, Lib.hid (by rw [← Hon.out _ _ _ (by rw [← hat'.out]; exact Ht.out)]; exact hat.out), by rw [Hs.out]; omega, ho', hs8', hold⟩
              case measure => simp [intOf]; omega
        · obtain rfl : k = LL.length := by omega
          have Ht := Lib.hid (treeAll_end (num := num) (out := out) hlt)
          have Hown := Lib.hid hown
          clear hown hlt hk
          obtain ⟨ao, co, rfl, _, _⟩ := ownsRow_form Hown.out
          obtain ⟨fz, c0, c1, c2, c3, c4⟩ := hR wr hold
          go_wp2_with fail
          (try simp only [Exit.inBlock, Exit.then])
          refine bodyPost_ret (v := .tuple #[.slice ao out.length co, wrongV ⟨0, 0, 0, 0, ⟨#[]⟩⟩]) (by simp [results, Try.results35, go_sem, c0, c1, c2, c3, c4, wrongV]) rfl ?_
          have hb := Ht.out
          rw [hat.out] at hb
          exact ⟨.inr ⟨by rw [hb]; exact (by decide : (-1 : Int) < 0), _, rfl, by rw [hb]; exact Prs.five Hown.out hg _ _ _ _ _⟩, Old.five (o1.trans hold) (Nat.le_refl _) _ _ _ _ _⟩
end Go.Proofs.Ytigpjfebnppejaa
