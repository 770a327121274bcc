/-
  LINK, THE DOCUMENT's, S: Out, Into, Orphans.
-/
import Derived.Test.YtkaoipegbjmlnaaLinkR
import Derived.Test.YtkaoipegbjmlnaaLinkH
namespace Go.Proofs.Ytkaoipegbjmlnaa
open Go.RowKit
attribute [local go_sem] Old.refl Old.alloc Old.drew Old.setCell OldW.old

/-- a grid's row -/
theorem Grid.at' {w : World} {v : Value} {n : Nat} {E : Int → Int → Bool} (h : Grid w v n E) : ∃ G, v = .slice (some ⟨G, 0, none⟩) n n ∧ ∀ i, i < n → ∃ g, (∀ W, Old w W → W.cell? ⟨G, i, none⟩ = some (.slice (some ⟨g, 0, none⟩) n n)) ∧ ∀ j : Nat, j < n → ∀ W, Old w W → W.cell? ⟨g, j, none⟩ = some (.bool (E i j)) := by
  obtain ⟨G, B, e, hb, h⟩ := h
  refine ⟨G, e, fun i hi => ?_⟩
  have hg : B[i]? = some B[i] := List.getElem?_eq_getElem (by omega)
  exact ⟨_, h i _ hg⟩
set_option maxRecDepth 100000 in
set_option maxHeartbeats 1600000 in
theorem ROut_any (v : Value) (l : List Rfr) (tp t : Int) (w : World) (hl : Recs rfE w v l) :
    Calls Try.prog 12 #[v, .int .i64 tp, .int .i64 t] w fun e w' => RetL w w' (asksE l.length tp [t]) (outOf l tp t) e ∧ Old w w' := by
  have Hl := Lib.hid hl
  obtain ⟨a, cap, rfl, hc1, hc2⟩ := hl.form
  clear hl
  have o0 : Old w (w.alloc (.cells #[.int .i64 t] 3)) := (Old.refl w).alloc _
  have HG := Lib.hid (grid_any (.slice a l.length cap) (.slice (some ⟨w.heap.size, 0, none⟩) 1 1) l tp [t] (w.alloc (.cells #[.int .i64 t] 3)) (Hl.out.old o0) (Ints.one w 3 t))
  by_cases hE : asksE l.length tp [t] = 0
  · obtain ⟨hn, ht0, ht1, hs⟩ := asks_ok hE
    obtain ⟨n, rfl⟩ : ∃ n : Nat, tp = n := ⟨tp.toNat, by omega⟩
    obtain ⟨hs0, hs1⟩ := hs t (by simp)
    obtain ⟨tn, rfl⟩ : ∃ tn : Nat, t = tn := ⟨t.toNat, by omega⟩
    have htn : tn < n := by omega
    rw [hE] at HG ⊢
    clear hE hs
    go_enter Try.func12, Try.ntmps12
    go_wp2_with fail
    refine HG.out.mono ?_
    rintro e w2 ⟨⟨u, rfl, hu⟩, o2⟩
    obtain ⟨G, rfl, hg⟩ := (hu rfl).at'
    have Hg := Lib.hid hg
    have o3 := o0.trans o2
    have hsz := o3.size
    clear hu hg HG o0 o2
    go_wp2_with fail
    go_loopw [10, 11] (fun x j wr => ∃ k : Nat, j = .int .i64 k ∧ k ≤ n ∧ OwnI 3 w2 wr x (below k (edge l n tn)) ∧ Old w2 wr) (fun _ j _ => n - (intOf j).toNat)
    case atStart => exact ⟨0, rfl, Nat.zero_le _, OwnI.nil _ _ _, Old.refl _⟩
    case round =>
      obtain ⟨k, rfl, hk, hown, ho⟩ := hrel
      have Hown := Lib.hid hown
      have hlb := below_len k (edge l n tn)
      have Hsn := Lib.hid (below_snoc k (edge l n tn))
      clear hown
      by_cases hlt : k < n
      · have hi2 : (k : Int) < n := by omega
        obtain ⟨g, cG, cg⟩ := Hg.out tn htn
        have c1 := cG wr ho
        have c2 := cg k hlt wr ho
        clear cG cg
        cases hlo : edge l n tn k with
        | true =>
          rw [hlo] at c2
          rw [if_pos hlo] at Hsn
          clear hlo
          generalize below k (edge l n tn) = raw at *
          go_wp2_with (at_builtin; refine wpList_append_ints (w0 := w2) rfl _ _ 23 rfl 3 Try.underlying23 infoInt _ raw [(k : Int)] rfl (Hown.out.alloc _) _ rfl (Ints.one _ _ (k : Int)) (by simp; omega) (ho.alloc _) ?_; intro v5 w5 hown5 ho5 _)
          go_roundw
          case rel => exact ⟨k + 1, by go_num, by omega, by rw [Hsn.out]; exact hown5, ho5⟩
          case measure => simp [intOf]; omega
        | false =>
          rw [hlo] at c2
          rw [if_neg (by rw [hlo]; exact Bool.false_ne_true), List.append_nil] at Hsn
          clear hlo
          go_wp2_with fail
          go_roundw
          case rel => exact ⟨k + 1, by go_num, by omega, by rw [Hsn.out]; exact Hown.out, ho⟩
          case measure => simp [intOf]; omega
      · obtain rfl : k = n := by omega
        have hi2 : ¬ (k : Int) < k := by omega
        go_wp2_with fail
        go_ret2
        exact ⟨⟨_, rfl, by rw [if_pos rfl]; exact Hown.out.lower hsz⟩, o3.trans ho⟩
  · have hb : (asksE l.length tp [t] == 0) = false := by rw [beq_eq_false_iff_ne]; exact hE
    have Hne := Lib.hid hE
    generalize asksE l.length tp [t] = E at *
    clear hE
    go_enter Try.func12, Try.ntmps12
    go_wp2_with fail
    refine HG.out.mono ?_
    rintro e w2 ⟨⟨u, rfl, _⟩, o2⟩
    have o3 := o0.trans o2
    clear HG o0 o2
    go_wp2_with fail
    go_loopw [10, 11] (fun x j wr => x = .slice none 0 0 ∧ j = .int .i64 0 ∧ w2 = wr) (fun _ j _ => 0)
    case atStart => exact ⟨rfl, rfl, rfl⟩
    case round =>
      obtain ⟨rfl, rfl, rfl⟩ := hrel
      go_wp2_with fail
      go_ret2
      exact ⟨⟨_, rfl, by rw [if_neg Hne.out]; exact OwnI.nil _ _ _⟩, o3⟩
set_option maxRecDepth 100000 in
set_option maxHeartbeats 1600000 in
theorem RInto_any (v : Value) (l : List Rfr) (tp t : Int) (w : World) (hl : Recs rfE w v l) :
    Calls Try.prog 15 #[v, .int .i64 tp, .int .i64 t] w fun e w' => RetL w w' (asksE l.length tp [t]) (intoOf l tp t) e ∧ Old w w' := by
  have Hl := Lib.hid hl
  obtain ⟨a, cap, rfl, hc1, hc2⟩ := hl.form
  clear hl
  have o0 : Old w (w.alloc (.cells #[.int .i64 t] 3)) := (Old.refl w).alloc _
  have HG := Lib.hid (grid_any (.slice a l.length cap) (.slice (some ⟨w.heap.size, 0, none⟩) 1 1) l tp [t] (w.alloc (.cells #[.int .i64 t] 3)) (Hl.out.old o0) (Ints.one w 3 t))
  by_cases hE : asksE l.length tp [t] = 0
  · obtain ⟨hn, ht0, ht1, hs⟩ := asks_ok hE
    obtain ⟨n, rfl⟩ : ∃ n : Nat, tp = n := ⟨tp.toNat, by omega⟩
    obtain ⟨hs0, hs1⟩ := hs t (by simp)
    obtain ⟨tn, rfl⟩ : ∃ tn : Nat, t = tn := ⟨t.toNat, by omega⟩
    have htn : tn < n := by omega
    rw [hE] at HG ⊢
    clear hE hs
    go_enter Try.func15, Try.ntmps15
    go_wp2_with fail
    refine HG.out.mono ?_
    rintro e w2 ⟨⟨u, rfl, hu⟩, o2⟩
    obtain ⟨G, rfl, hg⟩ := (hu rfl).at'
    have Hg := Lib.hid hg
    have o3 := o0.trans o2
    have hsz := o3.size
    clear hu hg HG o0 o2
    go_wp2_with fail
    go_loopw [10, 11] (fun x j wr => ∃ k : Nat, j = .int .i64 k ∧ k ≤ n ∧ OwnI 3 w2 wr x (below k (fun b => edge l n b tn)) ∧ Old w2 wr) (fun _ j _ => n - (intOf j).toNat)
    case atStart => exact ⟨0, rfl, Nat.zero_le _, OwnI.nil _ _ _, Old.refl _⟩
    case round =>
      obtain ⟨k, rfl, hk, hown, ho⟩ := hrel
      have Hown := Lib.hid hown
      have hlb := below_len k (fun b => edge l n b tn)
      have Hsn := Lib.hid (below_snoc k (fun b => edge l n b tn))
      clear hown
      by_cases hlt : k < n
      · have hi2 : (k : Int) < n := by omega
        obtain ⟨g, cG, cg⟩ := Hg.out k hlt
        have c1 := cG wr ho
        have c2 := cg tn htn wr ho
        clear cG cg
        cases hlo : edge l n k tn with
        | true =>
          rw [hlo] at c2
          rw [if_pos hlo] at Hsn
          clear hlo
          generalize below k (fun b => edge l n b tn) = raw at *
          go_wp2_with (at_builtin; refine wpList_append_ints (w0 := w2) rfl _ _ 23 rfl 3 Try.underlying23 infoInt _ raw [(k : Int)] rfl (Hown.out.alloc _) _ rfl (Ints.one _ _ (k : Int)) (by simp; omega) (ho.alloc _) ?_; intro v5 w5 hown5 ho5 _)
          go_roundw
          case rel => exact ⟨k + 1, by go_num, by omega, by rw [Hsn.out]; exact hown5, ho5⟩
          case measure => simp [intOf]; omega
        | false =>
          rw [hlo] at c2
          rw [if_neg (by rw [hlo]; exact Bool.false_ne_true), List.append_nil] at Hsn
          clear hlo
          go_wp2_with fail
          go_roundw
          case rel => exact ⟨k + 1, by go_num, by omega, by rw [Hsn.out]; exact Hown.out, ho⟩
          case measure => simp [intOf]; omega
      · obtain rfl : k = n := by omega
        have hi2 : ¬ (k : Int) < k := by omega
        go_wp2_with fail
        go_ret2
        exact ⟨⟨_, rfl, by rw [if_pos rfl]; exact Hown.out.lower hsz⟩, o3.trans ho⟩
  · have hb : (asksE l.length tp [t] == 0) = false := by rw [beq_eq_false_iff_ne]; exact hE
    have Hne := Lib.hid hE
    generalize asksE l.length tp [t] = E at *
    clear hE
    go_enter Try.func15, Try.ntmps15
    go_wp2_with fail
    refine HG.out.mono ?_
    rintro e w2 ⟨⟨u, rfl, _⟩, o2⟩
    have o3 := o0.trans o2
    clear HG o0 o2
    go_wp2_with fail
    go_loopw [10, 11] (fun x j wr => x = .slice none 0 0 ∧ j = .int .i64 0 ∧ w2 = wr) (fun _ j _ => 0)
    case atStart => exact ⟨rfl, rfl, rfl⟩
    case round =>
      obtain ⟨rfl, rfl, rfl⟩ := hrel
      go_wp2_with fail
      go_ret2
      exact ⟨⟨_, rfl, by rw [if_neg Hne.out]; exact OwnI.nil _ _ _⟩, o3⟩
end Go.Proofs.Ytkaoipegbjmlnaa
