/-
  LINK, THE DOCUMENT's, T: who is alone.
-/
import Derived.Test.YtkaoipegbjmlnaaLinkS
namespace Go.Proofs.Ytkaoipegbjmlnaa
open Go.RowKit
attribute [local go_sem] Old.refl Old.alloc Old.drew Old.setCell OldW.old

theorem lone_edge (l : List Rfr) (n i : Nat) : loneB l n i = true ↔ ∀ m : Nat, m < n → m = i ∨ edge l n m i = false := by
  unfold loneB
  rw [Bool.not_eq_true']
  constructor
  · intro h m hm
    by_cases e : m = i
    · exact .inl e
    · refine .inr ?_
      rw [Bool.eq_false_iff]
      intro he
      obtain ⟨x, hx, hc⟩ := List.any_eq_true.1 he
      simp only [Bool.and_eq_true, beq_iff_eq] at hc
      obtain ⟨h1, h2, h3⟩ := hc
      have : (l.any fun x => cntR x n && (x.f != x.t && x.t == i)) = true := List.any_eq_true.2 ⟨x, hx, by
        rw [h1, Bool.true_and, Bool.and_eq_true, bne_iff_ne, beq_iff_eq]
        exact ⟨by omega, h3⟩⟩
      rw [h] at this
      cases this
  · intro h
    rw [Bool.eq_false_iff]
    intro hany
    obtain ⟨x, hx, hc⟩ := List.any_eq_true.1 hany
    simp only [Bool.and_eq_true, bne_iff_ne, beq_iff_eq] at hc
    obtain ⟨h1, h2, h3⟩ := hc
    obtain ⟨m, hm, hmn⟩ := cnt_from h1
    rcases h m hmn with e | e
    · omega
    · rw [Bool.eq_false_iff] at e
      exact e (List.any_eq_true.2 ⟨x, hx, by simp [h1, h3, hm]⟩)
set_option maxRecDepth 100000 in
set_option maxHeartbeats 1600000 in
theorem ROrphans_any (v : Value) (l : List Rfr) (tp : Int) (w : World) (hl : Recs rfE w v l) :
    Calls Try.prog 17 #[v, .int .i64 tp] w fun e w' => RetL w w' (asksE l.length tp []) (loneOf l tp) e ∧ Old w w' := by
  have Hl := Lib.hid hl
  obtain ⟨a, cap, rfl, hc1, hc2⟩ := hl.form
  clear hl
  have HG := Lib.hid (grid_any (.slice a l.length cap) (.slice none 0 0) l tp [] w Hl.out (Ints.nil w))
  by_cases hE : asksE l.length tp [] = 0
  · obtain ⟨hn, ht0, ht1, _⟩ := asks_ok hE
    obtain ⟨n, rfl⟩ : ∃ n : Nat, tp = n := ⟨tp.toNat, by omega⟩
    rw [hE] at HG ⊢
    clear hE
    go_enter Try.func17, Try.ntmps17
    go_wp2_with fail
    refine HG.out.mono ?_
    rintro e w2 ⟨⟨u, rfl, hu⟩, o2⟩
    obtain ⟨G, rfl, hg⟩ := (hu rfl).at'
    have Hg := Lib.hid hg
    have hsz := o2.size
    clear hu hg HG
    go_wp2_with fail
    go_loopw [8, 9] (fun x j wr => ∃ k : Nat, j = .int .i64 k ∧ k ≤ n ∧ OwnI 3 w2 wr x (below k (loneB l n)) ∧ Old w2 wr) (fun _ j _ => n - (intOf j).toNat)
    case atStart => exact ⟨0, rfl, Nat.zero_le _, OwnI.nil _ _ _, Old.refl _⟩
    case round =>
      obtain ⟨i, rfl, hk, hown, ho⟩ := hrel
      obtain ⟨ax, cx, rfl, _, _⟩ := ownsRow_form hown
      have Hown := Lib.hid hown
      have hlb := below_len i (loneB l n)
      have Hsn := Lib.hid (below_snoc i (loneB l n))
      clear hown
      by_cases hlt : i < n
      · have hi2 : (i : Int) < n := by omega
        generalize below i (loneB l n) = raw at *
        go_wp2_with fail
        go_loopw [10, 11] (fun x j wx => ∃ k : Nat, j = .int .i64 k ∧ k ≤ n ∧ x = .bool (decide (∀ m : Nat, m < k → m = i ∨ edge l n m i = false)) ∧ wr = wx) (fun _ j _ => n - (intOf j).toNat)
        case atStart => exact ⟨0, rfl, Nat.zero_le _, by rw [decide_eq_true (fun m hm => absurd hm (Nat.not_lt_zero m))], rfl⟩
        case round =>
          obtain ⟨k, rfl, hk, rfl, rfl⟩ := hrel
          by_cases hlt2 : k < n
          · have hi3 : (k : Int) < n := by omega
            obtain ⟨g, cG, cg⟩ := Hg.out k hlt2
            have c1 := cG wr ho
            have c2 := cg i hlt wr ho
            have Hst : Hid ((decide (∀ m : Nat, m < k → m = i ∨ edge l n m i = false) && (decide (k = i) || !edge l n k i)) = decide (∀ m : Nat, m < k + 1 → m = i ∨ edge l n m i = false)) := by
              show _ = _
              rw [Bool.eq_iff_iff, Bool.and_eq_true, decide_eq_true_iff, decide_eq_true_iff, Bool.or_eq_true, decide_eq_true_iff, Bool.not_eq_true']
              constructor
              · rintro ⟨h1, h2⟩ m hm
                rcases Nat.lt_or_ge m k with h | h
                · exact h1 m h
                · obtain rfl : m = k := by omega
                  exact h2
              · intro h
                exact ⟨fun m hm => h m (by omega), h k (by omega)⟩
            clear cG cg
            generalize decide (∀ m : Nat, m < k → m = i ∨ edge l n m i = false) = al at *
            generalize edge l n k i = ed at *
            cases al with
            | false =>
              go_wp2_with fail
              go_roundw
              case rel => exact ⟨k + 1, by go_num, by omega, by rw [← Hst.out]; rfl, by trivial⟩
              case measure => simp [intOf]; omega
            | true =>
              by_cases e : k = i
              · have hb : ((k : Int) == (i : Int)) = true := by rw [beq_iff_eq]; omega
                have Hd := Lib.hid (decide_eq_true e)
                clear e
                go_wp2_with fail
                go_roundw
                case rel => exact ⟨k + 1, by go_num, by omega, by rw [← Hst.out, Hd.out]; rfl, by trivial⟩
                case measure => simp [intOf]; omega
              · have hb : ((k : Int) == (i : Int)) = false := by rw [beq_eq_false_iff_ne]; omega
                have Hd := Lib.hid (decide_eq_false e)
                clear e
                go_wp2_with fail
                go_roundw
                case rel => exact ⟨k + 1, by go_num, by omega, by rw [← Hst.out, Hd.out]; simp, by trivial⟩
                case measure => simp [intOf]; omega
          · obtain rfl : k = n := by omega
            have hi3 : ¬ (k : Int) < k := by omega
            have Hal : Hid (decide (∀ m : Nat, m < k → m = i ∨ edge l k m i = false) = loneB l k i) := by
              show _ = _
              rw [Bool.eq_iff_iff, decide_eq_true_iff, lone_edge]
            rw [Hal.out]
            cases hlo : loneB l k i with
            | true =>
              rw [if_pos hlo] at Hsn
              clear hlo
              go_wp2_with (at_builtin; refine wpList_append_ints (w0 := w2) rfl _ _ 23 rfl 3 Try.underlying23 infoInt _ raw [(i : Int)] rfl (Hown.out.alloc _) _ rfl (Ints.one _ _ (i : Int)) (by simp; omega) (ho.alloc _) ?_; intro v5 w5 hown5 ho5 _)
              go_roundw
              case rel => exact ⟨i + 1, by go_num, by omega, by rw [Hsn.out]; exact hown5, ho5⟩
              case measure => simp [intOf]; omega
            | false =>
              rw [if_neg (by rw [hlo]; exact Bool.false_ne_true), List.append_nil] at Hsn
              clear hlo
              go_wp2_with fail
              go_roundw
              case rel => exact ⟨i + 1, by go_num, by omega, by rw [Hsn.out]; exact Hown.out, ho⟩
              case measure => simp [intOf]; omega
      · obtain rfl : i = n := by omega
        have hi2 : ¬ (i : Int) < i := by omega
        go_wp2_with fail
        go_ret2
        exact ⟨⟨_, rfl, by rw [if_pos rfl]; exact Hown.out.lower hsz⟩, o2.trans ho⟩
  · have hb : (asksE l.length tp [] == 0) = false := by rw [beq_eq_false_iff_ne]; exact hE
    have Hne := Lib.hid hE
    generalize asksE l.length tp [] = E at *
    clear hE
    go_enter Try.func17, Try.ntmps17
    go_wp2_with fail
    refine HG.out.mono ?_
    rintro e w2 ⟨⟨u, rfl, _⟩, o2⟩
    clear HG
    go_wp2_with fail
    go_loopw [8, 9] (fun x j wr => x = .slice none 0 0 ∧ j = .int .i64 0 ∧ w2 = wr) (fun _ j _ => 0)
    case atStart => exact ⟨rfl, rfl, rfl⟩
    case round =>
      obtain ⟨rfl, rfl, rfl⟩ := hrel
      go_wp2_with fail
      go_ret2
      exact ⟨⟨_, rfl, by rw [if_neg Hne.out]; exact OwnI.nil _ _ _⟩, o2⟩
end Go.Proofs.Ytkaoipegbjmlnaa
