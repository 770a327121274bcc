/-
  LINK, H: what can be reached.
-/
import Derived.Test.YtkaoipegbjmlnaaDoorZLinkW
namespace Go.Proofs.YtkaoipegbjmlnaaDoor
open Go.RowKit
attribute [local go_sem] Old.refl Old.alloc Old.drew Old.setCell OldW.old

theorem edge_rng {l : List Rfr} {n : Nat} {a b : Int} (h : edge l n a b = true) : (0 ≤ a ∧ a < n) ∧ 0 ≤ b ∧ b < n := by
  unfold edge cntR at h
  obtain ⟨x, _, hx⟩ := List.any_eq_true.1 h
  simp at hx
  omega
def RetD (w w' : World) (E : Int) (n : Nat) (Ed : Int → Int → Bool) (s : Int) (e : Ending) : Prop :=
  ∃ u, e = .returned (.tuple #[u, .int .i64 E]) ∧ (E = 0 → ∃ D : Int → Option Nat, OwnI 3 w w' u (below n fun x => (D x).isSome) ∧ ∀ x d, D x = some d ↔ DistIs Ed s x d) ∧ (E ≠ 0 → OwnI 3 w w' u [])
theorem distL_ix {F : Int → Option Nat} {n k : Nat} (h : k < n) : ix (distL F n) k = distV (F k) := by
  unfold ix distL
  rw [List.getD_eq_getElem?_getD, List.getElem?_map, List.getElem?_range h]; rfl
theorem distL_len (F : Int → Option Nat) (n : Nat) : (distL F n).length = n := by simp [distL]
set_option maxRecDepth 100000 in
set_option maxHeartbeats 1600000 in
theorem Reach_any (HR : Rises) (v : Value) (l : List Rfr) (tp s : Int) (w : World) (hl : Recs rfE w v l) :
    Calls Tryd.prog 21 #[v, .int .i64 tp, .int .i64 s] w fun e w' => RetD w w' (asksE l.length tp [s]) tp.toNat (edge l tp) s e ∧ Old w w' := by
  have Hl := Lib.hid hl
  obtain ⟨a, cap, rfl, hc1, hc2⟩ := hl.form
  clear hl
  have HC := Lib.hid (fun V (h : Ints V (.slice (some ⟨w.heap.size, 0, none⟩) 1 1) [s]) => check_any a l.length cap tp (.slice (some ⟨w.heap.size, 0, none⟩) 1 1) [s] V h)
  have HI := Lib.hid (Ints.one w 3 s)
  by_cases hE : asksE l.length tp [s] = 0
  · obtain ⟨hn, ht0, ht1, hs⟩ := asks_ok hE
    obtain ⟨n, rfl⟩ : ∃ n : Nat, tp = n := ⟨tp.toNat, by omega⟩
    obtain ⟨hs0, hs1⟩ := hs s (by simp)
    obtain ⟨sn, rfl⟩ : ∃ sn : Nat, s = sn := ⟨s.toNat, by omega⟩
    rw [hE] at HC ⊢
    have HG := Lib.hid (fun V (o : Old w V) => graph_any HR _ l n V (Hl.out.old o) hn (by omega))
    have HW := Lib.hid (fun G V W (h : Lists W G n V (edge l n)) => walk_any G n sn V (edge l n) W h (fun a b h => (edge_rng h).2) (by omega) (by omega))
    clear hE
    go_enter Tryd.func21, Tryd.ntmps21
    go_wp2_with fail
    refine (HC.out _ HI.out).mono ?_
    rintro e w1 ⟨rfl, rfl⟩
    have o1 : Old w (w.alloc (.cells #[.int .i64 (sn : Int)] 3)) := (Old.refl w).alloc _
    generalize w.alloc (.cells #[.int .i64 (sn : Int)] 3) = w1 at *
    go_wp2_with fail
    refine (HG.out _ o1).mono ?_
    rintro e w2 ⟨⟨G, V, rfl, hR⟩, o2⟩
    have HLs := Lib.hid hR.lists
    clear hR
    go_wp2_with fail
    refine (HW.out G V w2 HLs.out).mono ?_
    rintro e w3 ⟨⟨u, rfl, D, hD, hsay, _⟩, o3⟩
    obtain ⟨au, cu, rfl, _, _⟩ := ownsRow_form hD
    have o4 : Old w w3 := (o1.trans o2).trans o3
    have Hcell : Hid (∀ k, k < n → ∀ W, Old w3 W → ∃ g, au = some ⟨g, 0, none⟩ ∧ W.cell? ⟨g, k, none⟩ = some (.int .i64 (distV (D k)))) := fun k hk W o => by
      obtain ⟨g, rfl, _, _⟩ := OwnI.block hD (by rw [distL_len]; omega)
      have := o.cell (OwnI.cell hD (k := k) (by rw [distL_len]; exact hk))
      rw [distL_ix hk] at this
      exact ⟨g, rfl, this⟩
    have Hsay := Lib.hid hsay
    have hsz := o4.size
    rw [distL_len]
    clear hD hsay
    go_wp2_with fail
    go_loopw [9, 26] (fun x j wr => ∃ k : Nat, j = .int .i64 k ∧ k ≤ n ∧ OwnI 3 w3 wr x (below k fun x => (D x).isSome) ∧ Old w3 wr) (fun _ j _ => n - (intOf j).toNat)
    case atStart => exact ⟨0, rfl, Nat.zero_le _, OwnI.nil _ _ _, Old.refl _⟩
    case round =>
      obtain ⟨k, rfl, hk, hown, ho4⟩ := hrel
      have Hown := Lib.hid hown
      have hlb := below_len k (fun x => (D x).isSome)
      have Hsn := Lib.hid (below_snoc k (fun x => (D x).isSome))
      clear hown
      by_cases hlt : k < n
      · have hi2 : (k : Int) < n := by omega
        obtain ⟨g, rfl, c0⟩ := Hcell.out k hlt wr ho4
        cases hlo : D k with
        | some d =>
          rw [hlo] at c0 Hsn
          rw [Option.isSome_some, if_pos rfl] at Hsn
          have hge : (0 : Int) ≤ d := by omega
          change wr.cell? ⟨g, k, none⟩ = some (.int .i64 (d : Int)) at c0
          clear hlo
          generalize below k (fun x => (D x).isSome) = raw at *
          go_wp2_with (at_builtin; refine wpList_append_ints (w0 := w3) rfl _ _ 59 rfl 3 Tryd.underlying59 infoInt _ raw [(k : Int)] rfl (Hown.out.alloc _) _ rfl (Ints.one _ _ (k : Int)) (by simp; omega) (ho4.alloc _) ?_; intro v5 w5 hown5 ho5 _)
          go_roundw
          case rel => exact ⟨k + 1, by go_num, by omega, by rw [Hsn.out]; exact hown5, ho5⟩
          case measure => simp [intOf]; omega
        | none =>
          rw [hlo] at c0 Hsn
          rw [Option.isSome_none, if_neg Bool.false_ne_true, List.append_nil] at Hsn
          change wr.cell? ⟨g, k, none⟩ = some (.int .i64 (-1)) at c0
          clear hlo
          go_wp2_with fail
          go_roundw
          case rel => exact ⟨k + 1, by go_num, by omega, by rw [Hsn.out]; exact Hown.out, ho4⟩
          case measure => simp [intOf]; omega
      · obtain rfl : k = n := by omega
        have hi2 : ¬ (k : Int) < k := by omega
        go_wp2_with fail
        go_ret2
        exact ⟨⟨_, rfl, fun _ => ⟨D, by simpa using Hown.out.lower hsz, Hsay.out⟩, fun h => absurd rfl h⟩, o4.trans ho4⟩
  · have hb : (asksE l.length tp [s] != 0) = true := by rw [bne_iff_ne]; exact hE
    have Hne := Lib.hid hE
    generalize asksE l.length tp [s] = E at *
    clear hE
    go_enter Tryd.func21, Tryd.ntmps21
    go_wp2_with fail
    refine (HC.out _ HI.out).mono ?_
    rintro e w1 ⟨rfl, rfl⟩
    go_wp2_with fail
    go_ret2
    exact ⟨⟨_, rfl, fun h => absurd h Hne.out, fun _ => OwnI.nil _ _ _⟩, (Old.refl w).alloc _⟩
end Go.Proofs.YtkaoipegbjmlnaaDoor
