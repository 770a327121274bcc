/-
  LINK, THE DOCUMENT's, X: a way.
-/
import Derived.Test.YtkaoipegbjmlnaaLinkV
namespace Go.Proofs.Ytkaoipegbjmlnaa
open Go.RowKit
attribute [local go_sem] Old.refl Old.alloc Old.drew Old.setCell OldW.old

theorem find_below {n k : Nat} {f p : Int → Bool} : k < n → f k = true → p k = true → (∀ q : Nat, q < k → f q = true → p q = false) → (below n f).find? p = some (k : Int) := by
  induction n with
  | zero => intro h; cases h
  | succ n ih =>
    intro hk hf hp hno
    rw [below_snoc, List.find?_append]
    rcases Nat.lt_or_ge k n with h | h
    · rw [ih h hf hp hno]; rfl
    · obtain rfl : k = n := by omega
      have h0 : (below k f).find? p = none := by
        rw [List.find?_eq_none]
        intro x hx
        obtain ⟨h0, h1, h2⟩ := below_mem.1 hx
        obtain ⟨q, rfl⟩ : ∃ q : Nat, x = q := ⟨x.toNat, by omega⟩
        rw [hno q (by omega) h2]; exact Bool.false_ne_true
      rw [h0, if_pos hf, List.find?_cons_of_pos hp]; rfl
theorem next_first {E : Int → Int → Bool} {n k : Nat} {D : Int → Option Nat} {t : Int} {d : Nat} (hk : k < n) (he : E t k = true) (hd : D k = some d) (hno : ∀ q : Nat, q < k → ¬ (E t q = true ∧ D q = some d)) : nextOf E n D t d = k := by
  unfold nextOf
  rw [find_below hk he (decide_eq_true hd) (fun q hq h => decide_eq_false (fun h2 => hno q hq ⟨h, h2⟩))]
  rfl
set_option maxRecDepth 100000 in
set_option maxHeartbeats 1600000 in
theorem RWay_any (v : Value) (l : List Rfr) (tp s t : Int) (w : World) (hl : Recs rfE w v l) :
    Calls Try.prog 19 #[v, .int .i64 tp, .int .i64 s, .int .i64 t] w fun e w' => RetW w w' (asksE l.length tp [s, t]) s (edge l tp) tp.toNat t e ∧ Old w w' := by
  have Hl := Lib.hid hl
  obtain ⟨a, cap, rfl, hc1, hc2⟩ := hl.form
  clear hl
  have o0 : Old w (w.alloc (.cells #[.int .i64 s, .int .i64 t] 3)) := (Old.refl w).alloc _
  have HI : Ints (w.alloc (.cells #[.int .i64 s, .int .i64 t] 3)) (.slice (some ⟨w.heap.size, 0, none⟩) 2 2) [s, t] := Ints.mk (l := [s, t]) (Nat.le_refl 2) (by decide) (fun i hi => by
    match i, hi with
    | 0, _ => simp [go_sem, ix]
    | 1, _ => simp [go_sem, ix])
  have HG := Lib.hid (grid_any (.slice a l.length cap) (.slice (some ⟨w.heap.size, 0, none⟩) 2 2) l tp [s, t] (w.alloc (.cells #[.int .i64 s, .int .i64 t] 3)) (Hl.out.old o0) HI)
  clear HI
  by_cases hE : asksE l.length tp [s, t] = 0
  · obtain ⟨hn, ht0, ht1, hs⟩ := asks_ok hE
    obtain ⟨n, rfl⟩ : ∃ n : Nat, tp = n := ⟨tp.toNat, by omega⟩
    obtain ⟨hs0, hs1⟩ := hs s (by simp)
    obtain ⟨hq0, hq1⟩ := hs t (by simp)
    obtain ⟨sn, rfl⟩ : ∃ sn : Nat, s = sn := ⟨s.toNat, by omega⟩
    obtain ⟨tn, rfl⟩ : ∃ tn : Nat, t = tn := ⟨t.toNat, by omega⟩
    have HEr : Hid (∀ a b, edge l n a b = true → (0 ≤ a ∧ a < n) ∧ 0 ≤ b ∧ b < n) := fun a b h => edge_rng h
    rw [hE] at HG ⊢
    rw [show (n : Int).toNat = n from rfl]
    clear hE hs
    generalize edge l n = E at *
    go_enter Try.func19, Try.ntmps19
    go_wp2_with fail
    refine HG.out.mono ?_
    rintro e w2 ⟨⟨u, rfl, hu⟩, o2⟩
    have HF := Lib.hid (far_any u n tn E w2 (hu rfl) HEr.out (by omega) (by omega))
    obtain ⟨G, rfl, hg⟩ := (hu rfl).at'
    have Hg := Lib.hid hg
    have o3 := o0.trans o2
    clear hu hg HG o0 o2
    go_wp2_with fail
    refine HF.out.mono ?_
    rintro e w3 ⟨⟨u, rfl, D, hD, hsay, hdn⟩, o4⟩
    have Hdn := Lib.hid hdn
    have Hsay := Lib.hid hsay
    obtain ⟨au, cu, rfl, _, _⟩ := ownsRow_form hD
    have o5 : Old w w3 := o3.trans o4
    have Hcell : Hid (∀ k, k < n → ∀ W, Old w3 W → ∃ g, au = some ⟨g, 0, none⟩ ∧ W.cell? ⟨g, k, none⟩ = some (.int .i64 (distV (D k)))) := fun k hk W o => by
      obtain ⟨g, rfl, _, _⟩ := OwnI.block hD (by rw [distL_len]; omega)
      have := o.cell (OwnI.cell hD (k := k) (by rw [distL_len]; exact hk))
      rw [distL_ix hk] at this
      exact ⟨g, rfl, this⟩
    rw [distL_len]
    clear hD hsay hdn HF
    obtain ⟨g, rfl, c0⟩ := Hcell.out sn (by omega) w3 (Old.refl _)
    have Hc2 : Hid (∀ k, k < n → ∀ W, Old w3 W → W.cell? ⟨g, k, none⟩ = some (.int .i64 (distV (D k)))) := fun k hk W o => by
      obtain ⟨g', e1, e2⟩ := Hcell.out k hk W o
      injection e1 with e1
      injection e1 with e1
      rw [e1]; exact e2
    have hsz := o5.size
    clear Hcell
    cases hDs : D sn with
    | none =>
      rw [hDs] at c0
      change w3.cell? ⟨g, sn, none⟩ = some (.int .i64 (-1)) at c0
      have HDs := Lib.hid hDs
      clear hDs
      go_wp2_with fail
      go_ret2
      exact ⟨⟨_, _, rfl, fun h => absurd rfl h, fun _ => ⟨D, Hsay.out, .inl ⟨HDs.out, rfl, OwnI.nil _ _ _⟩⟩⟩, o5⟩
    | some d0 =>
      rw [hDs] at c0
      have hge : ¬ (d0 : Int) < 0 := by omega
      change w3.cell? ⟨g, sn, none⟩ = some (.int .i64 (d0 : Int)) at c0
      have HDs := Lib.hid hDs
      clear hDs
      go_wp2_with fail
      have hd0 := Hdn.out sn d0 HDs.out
      have o7 : Old w3 (w3.alloc (.cells #[.int .i64 (sn : Int)] 3)) := (Old.refl w3).alloc _
      have hown7 : OwnI 3 w3 (w3.alloc (.cells #[.int .i64 (sn : Int)] 3)) (.slice (some ⟨w3.heap.size, 0, none⟩) 1 1) [(sn : Int)] :=
        World.ownsRow_lit w3 #[.int .i64 (sn : Int)] 1 (Nat.le_refl _) (by decide) rfl
      have Hown7 := Lib.hid hown7
      clear hown7
      go_loopg [13, 14] (d0 + 1) (fun c x tt wr => ∃ (d : Nat) (tc : Nat) (pre : List Int), tt = .int .i64 tc ∧ c = d + 1 ∧ D tc = some d ∧ tc < n ∧ OwnI 3 w3 wr x pre ∧ pre ++ wayL E n D d tc = (sn : Int) :: wayL E n D d0 sn ∧ pre.length + d = d0 + 1 ∧ Old w3 wr)
      case atStart => exact ⟨d0, sn, [(sn : Int)], rfl, rfl, HDs.out, by omega, Hown7.out, rfl, by simp; omega, o7⟩
      case round =>
        clear Hown7
        obtain ⟨d, tc, pre, rfl, hgk, hDt, htc, hown, hpre, hlen, hor⟩ := hrel
        have HDt := Lib.hid hDt
        have Hpre := Lib.hid hpre
        have Hgk := Lib.hid hgk
        have Hlen := Lib.hid hlen
        have Hown := Lib.hid hown
        clear hDt hpre hgk hlen hown
        cases d with
        | zero =>
          have hz := ((Hsay.out tc 0).1 HDt.out).zero
          obtain rfl : tc = tn := by omega
          obtain ⟨ax, cx, rfl, _, _⟩ := ownsRow_form Hown.out
          go_wp2_with fail
          go_ret2
          exact ⟨⟨_, _, rfl, fun h => absurd rfl h, fun _ => ⟨D, Hsay.out, .inr ⟨d0, HDs.out, rfl, by
            have h := Hpre.out
            rw [show wayL E n D 0 tc = [] from rfl, List.append_nil] at h
            rw [← h]
            exact Hown.out.lower hsz⟩⟩⟩, o5.trans hor⟩
        | succ d =>
          have hne : ¬ ((tc : Int) = tn) := fun e => by
            have h1 := (Hsay.out tn 0).2 (DistIs.self _ _)
            rw [← e, HDt.out] at h1
            cases h1
          have hneb : ((tc : Int) != tn) = true := by rw [bne_iff_ne]; exact hne
          have Hnx := Lib.hid (next_is HEr.out Hsay.out HDt.out)
          have hdd := Hdn.out tc (d + 1) HDt.out
          have ctW : ∀ W, Old wr W → W.cell? ⟨g, tc, none⟩ = some (.int .i64 ((d : Int) + 1)) := fun W o => by
            have e2 := Hc2.out tc (by omega) W (hor.trans o)
            rw [HDt.out] at e2
            exact e2
          have Hpre2 : Hid (∀ y : Nat, nextOf E n D tc d = y → (pre ++ [(y : Int)]) ++ wayL E n D d y = (sn : Int) :: wayL E n D d0 sn) := fun y hy => by
            rw [← Hpre.out, List.append_assoc]
            show pre ++ ((y : Int) :: wayL E n D d y) = pre ++ (nextOf E n D tc d :: wayL E n D d (nextOf E n D tc d))
            rw [hy]
          obtain ⟨gt, cG, cg⟩ := Hg.out tc htc
          have HcG := Lib.hid cG
          have Hcg := Lib.hid cg
          have o23 := o4.trans hor
          clear cG cg hne Hpre
          go_wp2_with fail
          generalize wr = wo at *
          go_loopw [15, 16] (fun x j wx => ∃ k : Nat, j = .int .i64 k ∧ k ≤ n ∧ ((x = .int .i64 (-1) ∧ ∀ q : Nat, q < k → ¬ (E tc q = true ∧ D q = some d)) ∨ ∃ y : Nat, x = .int .i64 y ∧ y < n ∧ nextOf E n D tc d = y ∧ D y = some d) ∧ Old wo wx) (fun _ j _ => n - (intOf j).toNat)
          case atStart => exact ⟨0, rfl, Nat.zero_le _, .inl ⟨rfl, fun q hq => absurd hq (Nat.not_lt_zero q)⟩, Old.refl _⟩
          case round =>
            obtain ⟨k, rfl, hk, hx, how⟩ := hrel
            have oq := how
            rcases hx with ⟨rfl, hno⟩ | ⟨y, rfl, hyn, hny, hDy⟩
            · have Hno := Lib.hid hno
              clear hno
              by_cases hlt : k < n
              · have hi : (k : Int) < n := by omega
                have c1 := HcG.out wr (o23.trans how)
                have c2 := Hcg.out k hlt wr (o23.trans how)
                have ck := Hc2.out k hlt wr (hor.trans how)
                have ct := ctW wr how
                have Heq : Hid (distV (D k) = d ↔ D k = some d) := distV_eq
                have Hfirst : Hid (E tc k = true → D k = some d → nextOf E n D tc d = k) := fun h1 h2 => next_first hlt h1 h2 Hno.out
                have Hno1 : Hid (¬ (E tc k = true ∧ D k = some d) → ∀ q : Nat, q < k + 1 → ¬ (E tc q = true ∧ D q = some d)) := fun h q hq => by
                  rcases Nat.lt_or_ge q k with h2 | h2
                  · exact Hno.out q h2
                  · obtain rfl : q = k := by omega
                    exact h
                clear Hno
                generalize hyv : distV (D k) = yv at *
                clear hyv ctW
                cases hed : E tc k with
                | false =>
                  rw [hed] at c2
                  have Hed := Lib.hid hed
                  clear hed
                  go_upto_region 14 with fail
                  go_quiet (fail)
                  go_wp2_with fail
                  go_roundw
                  case rel => exact ⟨k + 1, by go_num, by omega, .inl ⟨by trivial, Hno1.out (fun h => by rw [Hed.out] at h; cases h.1)⟩, below_drewN how _⟩
                  case measure => simp [intOf]; omega
                | true =>
                  rw [hed] at c2
                  have Hed := Lib.hid hed
                  clear hed
                  by_cases e : yv = d
                  · have hb : (yv == (d : Int) + 1 - 1) = true := by rw [beq_iff_eq]; omega
                    have hb2 : (yv == (d : Int)) = true := by rw [beq_iff_eq]; exact e
                    have HDk := Lib.hid (Heq.out.1 e)
                    have HN := Lib.hid (Hfirst.out Hed.out HDk.out)
                    clear e
                    go_upto_region 14 with fail
                    go_quiet (fail)
                    go_wp2_with fail
                    go_roundw
                    case rel => exact ⟨k + 1, by go_num, by omega, .inr ⟨k, rfl, hlt, HN.out, HDk.out⟩, below_drewN how _⟩
                    case measure => simp [intOf]; omega
                  · have hb : (yv == (d : Int) + 1 - 1) = false := by rw [beq_eq_false_iff_ne]; omega
                    have hb2 : (yv == (d : Int)) = false := by rw [beq_eq_false_iff_ne]; exact e
                    have HDk := Lib.hid (fun h => e (Heq.out.2 h))
                    clear e
                    go_upto_region 14 with fail
                    go_quiet (fail)
                    go_wp2_with fail
                    go_roundw
                    case rel => exact ⟨k + 1, by go_num, by omega, .inl ⟨by trivial, Hno1.out (fun h => HDk.out h.2)⟩, below_drewN how _⟩
                    case measure => simp [intOf]; omega
              · exfalso
                obtain ⟨y, hy, hyd⟩ := Hnx.out
                obtain ⟨h0, h1, h2⟩ := below_mem.1 hy
                obtain ⟨q, rfl⟩ : ∃ q : Nat, y = q := ⟨y.toNat, by omega⟩
                exact Hno.out q (by omega) ⟨h2, hyd⟩
            · have HN := Lib.hid hny
              have HDy := Lib.hid hDy
              have hy0 : ¬ (y : Int) < 0 := by omega
              obtain ⟨ax, cx, rfl, _, _⟩ := ownsRow_form Hown.out
              clear hny hDy ctW
              by_cases hlt : k < n
              · have hi : (k : Int) < n := by omega
                have hlen2 := Hlen.out
                go_wp2_with (at_builtin; go_loud (refine wpList_append_ints (w0 := w3) rfl _ _ 23 rfl 3 Try.underlying23 infoInt _ pre [(y : Int)] rfl ((Hown.out.old how).alloc _) _ rfl (Ints.one _ _ (y : Int)) (by simp; omega) ((hor.trans how).alloc _) ?_); intro v5 w5 hown5 ho5 _)
                go_roundg (d + 1)
                case measure => have := Hgk.out; omega
                case rel => exact ⟨d, y, pre ++ [(y : Int)], rfl, rfl, HDy.out, hyn, hown5, Hpre2.out _ HN.out, by simp; omega, ho5⟩
              · obtain rfl : k = n := by omega
                have hi : ¬ (k : Int) < k := by omega
                have hlen2 := Hlen.out
                go_wp2_with (at_builtin; go_loud (refine wpList_append_ints (w0 := w3) rfl _ _ 23 rfl 3 Try.underlying23 infoInt _ pre [(y : Int)] rfl ((Hown.out.old how).alloc _) _ rfl (Ints.one _ _ (y : Int)) (by simp; omega) ((hor.trans how).alloc _) ?_); intro v5 w5 hown5 ho5 _)
                go_roundg (d + 1)
                case measure => have := Hgk.out; omega
                case rel => exact ⟨d, y, pre ++ [(y : Int)], rfl, rfl, HDy.out, hyn, hown5, Hpre2.out _ HN.out, by simp; omega, ho5⟩
  · have hb : (asksE l.length tp [s, t] != 0) = true := by rw [bne_iff_ne]; exact hE
    have Hne := Lib.hid hE
    generalize asksE l.length tp [s, t] = E at *
    clear hE
    go_enter Try.func19, Try.ntmps19
    go_wp2_with fail
    refine HG.out.mono ?_
    rintro e w2 ⟨⟨u, rfl, _⟩, o2⟩
    have o3 := o0.trans o2
    clear HG o0 o2
    go_wp2_with fail
    go_ret2
    exact ⟨⟨_, _, rfl, fun _ => ⟨rfl, OwnI.nil _ _ _⟩, fun h => absurd h Hne.out⟩, o3⟩
end Go.Proofs.Ytkaoipegbjmlnaa
