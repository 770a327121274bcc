/-
  LINK: the walk of LinkWays.
-/
import Derived.Test.YtkaoipegbjmlnaaLinkN
import Derived.Test.YtkaoipegbjmlnaaLinkJ
import Derived.Deep.RegionHeld3
namespace Go.Proofs.Ytkaoipegbjmlnaa
open Go.RowKit
attribute [local go_sem] Old.refl Old.alloc Old.drew Old.setCell OldW.old

theorem Walk.dist {E : Int → Int → Bool} {a b : Int} : ∀ {n : Nat}, Walk E n a b → ∃ d, DistIs E a b d := fun {n} => by
  induction n using Nat.strongRecOn with
  | _ n ih =>
    intro h
    by_cases e : ∃ m, m < n ∧ Walk E m a b
    · obtain ⟨m, hm, k⟩ := e
      exact ih m hm k
    · refine ⟨n, h, fun m k => ?_⟩
      rcases Nat.lt_or_ge m n with c | c
      · exact absurd ⟨m, c, k⟩ e
      · exact c
theorem Walk.rng {E : Int → Int → Bool} {n : Nat} (hE : ∀ a b, E a b = true → (0 ≤ a ∧ a < n) ∧ 0 ≤ b ∧ b < n) {a b : Int} (ha : 0 ≤ a ∧ a < n) : ∀ {m : Nat}, Walk E m a b → 0 ≤ b ∧ b < n
  | 0, .nil _ => ha
  | _ + 1, .snoc _ e => (hE _ _ e).2
theorem reach_mem {E : Int → Int → Bool} {n : Nat} {D : Int → Option Nat} {s : Int} (hE : ∀ a b, E a b = true → (0 ≤ a ∧ a < n) ∧ 0 ≤ b ∧ b < n) (hs : 0 ≤ s ∧ s < n) (hD : ∀ x d, D x = some d ↔ DistIs E s x d) {y : Int} : y ∈ below n (fun x => (D x).isSome) ↔ ∃ m, Walk E m s y := by
  rw [below_mem]
  constructor
  · rintro ⟨_, _, h⟩
    obtain ⟨d, hd⟩ := Option.isSome_iff_exists.1 h
    exact ⟨d, ((hD y d).1 hd).1⟩
  · rintro ⟨m, h⟩
    obtain ⟨h0, h1⟩ := h.rng hE hs
    obtain ⟨d, hd⟩ := h.dist
    exact ⟨h0, h1, Option.isSome_iff_exists.2 ⟨d, (hD y d).2 hd⟩⟩
set_option maxRecDepth 100000 in
set_option maxHeartbeats 1600000 in
theorem linkWays_any (v vo : Value) (l : List Rfr) (os : List Int) (tp s t : Int) (w : World) (hl : Recs rfE w v l) (hos : Ints w vo os) (hz : l.length * 56 ≤ 140737488355328) :
    Calls Try.prog 3 #[v, .int .i64 tp, .int .i64 s, .int .i64 t, vo] w fun e w' => e = .returned (.bool true) ∧ Old w w' := by
  have Hl := Lib.hid hl
  obtain ⟨ax, cx, bx, offx, rfl, hcx1, hcx2, hax, htx⟩ := hos
  have Hax := Lib.hid hax
  have Htx := Lib.hid htx
  clear hl hax htx
  go_enter Try.func3, Try.ntmps3
  go_wp2_with fail
  refine (awake_any _).mono ?_
  rintro e w1 ⟨rfl, o1⟩
  go_wp2_with fail
  refine (twin_any v l _ (Hl.out.old o1) hz).mono ?_
  rintro e w2 ⟨⟨u2, rfl, hu2⟩, o2⟩
  go_wp2_with fail
  refine (Reach_any rises u2 l tp s w2 hu2.recs).mono ?_
  rintro e w3 ⟨⟨v3, rfl, h3, h3'⟩, o3⟩
  have o13 := (o1.trans o2).trans o3
  go_wp2_with fail
  refine (twin_any v l _ (Hl.out.old o13) hz).mono ?_
  rintro e w4 ⟨⟨u4, rfl, hu4⟩, o4⟩
  go_wp2_with fail
  refine (Way_any rises u4 l tp s t w4 hu4.recs).mono ?_
  rintro e w5 ⟨⟨v5, c5, rfl, h5', h5⟩, o5⟩
  have o15 := (o13.trans o4).trans o5
  clear hu2 hu4
  by_cases hE1 : asksE l.length tp [s] = 0
  · obtain ⟨D3, hD3, hd3⟩ := h3 hE1
    rw [hE1]
    obtain ⟨hn, ht0, ht1, hs⟩ := asks_ok hE1
    obtain ⟨n, rfl⟩ : ∃ n : Nat, tp = n := ⟨tp.toNat, by omega⟩
    rw [show (n : Int).toNat = n from rfl] at hD3 h5
    have hs' := hs s (by simp)
    have hmem : ∀ y, y ∈ below n (fun x => (D3 x).isSome) ↔ ∃ m, Walk (edge l n) m s y := fun y => reach_mem (fun a b h => edge_rng h) hs' hd3
    have I3 := Lib.hid ((hD3.ints.old o4).old o5)
    clear h3 h3' hs
    generalize below n (fun x => (D3 x).isSome) = rl at *
    by_cases hE2 : asksE l.length n [s, t] = 0
    · obtain ⟨D, hD, h⟩ := h5 hE2
      rcases h with ⟨hDs, rfl, hu⟩ | ⟨d, hDs, rfl, hu⟩
      · have hno : decide (t ∈ rl) = false := by
          rw [decide_eq_false_iff_not, hmem]
          rintro ⟨m, hm⟩
          obtain ⟨d, hd⟩ := (Walk.turn (E := fun a b => edge l n b a) hm).dist
          rw [(hD s d).2 hd] at hDs
          cases hDs
        have HB := Lib.hid (has_any v3 rl t w5 I3.out)
        rw [hno] at HB
        obtain ⟨a5, cc5, rfl, _, _⟩ := ownsRow_form hu
        rw [List.length_nil]
        clear h5 h5' hE1 hE2 hno hu hD hDs hmem
        go_wp2_with fail
        refine HB.out.mono ?_
        rintro e w6 ⟨rfl, rfl⟩
        go_wp2_with fail
        go_ret
        exact ⟨rfl, o15⟩
      · have HW : Hid (WayOk (edge l n) n s t d (s :: wayL (edge l n) n D d s)) := way_ok (fun a b h => edge_rng h) hD hDs
        have Hrng : Hid (∀ a b, edge l n a b = true → (0 ≤ a ∧ a < n) ∧ 0 ≤ b ∧ b < n) := fun a b h => edge_rng h
        obtain ⟨aw, cw, bw, offw, rfl, hcw1, hcw2, haw, htw⟩ := hu.ints
        have Hmem := Lib.hid hmem
        rw [HW.out.len] at haw hcw1 ⊢
        obtain rfl := haw (by omega)
        have IW := Lib.hid hu.ints
        rw [HW.out.len] at IW
        have Htw : Hid (∀ k, k ≤ d → ∀ W, Old w5 W → W.cell? ⟨bw, offw + k, none⟩ = some (.int .i64 (ix (s :: wayL (edge l n) n D d s) k))) := fun k hk => htw k (by have := HW.out.len; omega)
        have c0 := Htw.out 0 (by omega) w5 (Old.refl _)
        have c1 := Htw.out d (Nat.le_refl _) w5 (Old.refl _)
        rw [HW.out.first, Nat.add_zero] at c0
        rw [HW.out.last] at c1
        have hd1 : (d : Int) < cw := by omega
        clear h5 h5' hE1 htw hu hD hDs hmem haw hd3 hD3
        generalize s :: wayL (edge l n) n D d s = W at *
        have hyes : decide (t ∈ rl) = true := by
          rw [decide_eq_true_iff, Hmem.out]
          exact ⟨d, HW.out.walk⟩
        have HB := Lib.hid (has_any v3 rl t w5 I3.out)
        rw [hyes] at HB
        clear hyes
        have Hone : Hid (∀ i : Int, 0 ≤ i → i < n → asksE l.length n [i] = 0) := fun i h0 h1 => by
          unfold asksE
          rw [if_neg (by omega), if_neg (by omega), if_neg]
          simp; omega
        have Hhas : Hid (∀ (V : World) (x : Int), Old w5 V → (∃ m, Walk (edge l n) m s x) → Calls Try.prog 10 #[v3, .int .i64 x] V fun e w' => e = .returned (.bool true) ∧ V = w') := fun V x o hx => by
          have h := has_any v3 rl x V (I3.out.old o)
          rw [decide_eq_true ((Hmem.out x).2 hx)] at h
          exact h
        have Hcut : Hid (∀ (k : Nat) (V : World), k ≤ d → Old w5 V → Calls Try.prog 10 #[.slice (some ⟨bw, offw, none⟩) k cw, .int .i64 (ix W k)] V fun e w' => e = .returned (.bool false) ∧ Old V w') := fun k V hk o => by
          have h := has_any (.slice (some ⟨bw, offw, none⟩) k cw) (W.take k) (ix W k) V ((IW.out.old o).take (by rw [HW.out.len]; omega))
          rw [decide_eq_false (HW.out.apart k hk)] at h
          exact h.mono fun e w' ⟨h1, h2⟩ => ⟨h1, h2 ▸ Old.refl _⟩
        have Hix : Hid (∀ k, k ≤ d → 0 ≤ ix W k ∧ ix W k < n) := fun k hk => by
          cases k with
          | zero => rw [HW.out.first]; exact hs'
          | succ k => exact (Hrng.out _ _ (HW.out.steps k (by omega))).2
        go_wp2_with fail
        refine HB.out.mono ?_
        rintro e w6 ⟨rfl, rfl⟩
        clear HB
        go_wp2_with fail
        go_loopw [15] (fun j wr => ∃ k : Nat, j = .int .i64 k ∧ k ≤ d + 1 ∧ Old w5 wr) (fun j _ => d + 1 - (intOf j).toNat)
        case atStart => exact ⟨0, rfl, Nat.zero_le _, Old.refl _⟩
        case round =>
          obtain ⟨k, rfl, hk, hw⟩ := hrel
          by_cases hlt : k < d + 1
          · have hk1 : (k : Int) < d + 1 := by omega
            have hkc : (k : Int) ≤ cw := by omega
            have ck := later (Htw.out k (by omega) wr hw)
            have HC := Lib.hid (fun V (o : Old wr V) => Hcut.out k V (by omega) (hw.trans o))
            have HXk := Lib.hid (Hix.out k (by omega))
            have HS := Lib.hid (fun (j : Nat) (h : k = j + 1) => And.intro (Htw.out j (by omega)) (And.intro (Hix.out j (by omega)) (HW.out.steps j (by omega))))
            generalize hyk : ix W k = y at *
            have Hyk := Lib.hid hyk
            clear hyk
            go_wp2_with fail
            refine wp_region_old (Old.refl _) (by kernel_rfl) (by kernel_rfl) ?_
            repeat (go_big_quiet_step (with_reducible exact Calls.in_old (HC.out _ (OldW.old _))))
            refine wpQuiet_nil ?_
            rintro ⟨wq, hwq⟩
            dsimp only
            have oq := hw.trans hwq
            cases k with
            | zero =>
              go_wp2_with fail
              go_roundw
              case rel => exact ⟨1, by go_num, by omega, oq⟩
              case measure => simp [intOf]
            | succ j =>
              obtain ⟨cj, ⟨hx0, hx1⟩, hst⟩ := HS.out j rfl
              have cj' := cj wq oq
              have cy := ck wq hwq
              rw [Hyk.out] at hst
              have HEx := Lib.hid (Hone.out _ hx0 hx1)
              have Hst := Lib.hid hst
              have hj0 : (0 : Int) < (j : Int) + 1 := by omega
              have hj1 : (j : Int) < d + 1 := by omega
              have oTq := o15.trans oq
              have Hy := Lib.hid HXk.out
              clear hst cj ck
              generalize ix W j = x at *
              have hwr : IntKind.i64.wrap (((j + 1 : Nat) : Int) - 1) = j := by rw [IntWalk.i64_in _ (by omega)]; omega
              have hwr2 : IntKind.i64.wrap ((j : Int) + 1 - 1) = j := by rw [IntWalk.i64_in _ (by omega)]; omega
              have hwr3 : IntKind.i64.wrap (j : Int) = j := by exact IntWalk.i64_in _ (by omega)
              go_upto_region 15 with fail
              go_region_held3 (fun w' => w'.cell? ⟨bw, offw + j, none⟩ = some (.int .i64 x) ∧ w'.cell? ⟨bw, offw + (j + 1), none⟩ = some (.int .i64 y)) (first | go_keep | exact ⟨ho8.cell cj', ho8.cell cy⟩ | exact ⟨(ho8.trans ho9).cell cj', (ho8.trans ho9).cell cy⟩) (first
                | (go_at_call 8; refine (twin_any v l _ (Hl.out.old oTq.drew) hz).mono ?_; rintro e w8 ⟨⟨u8, rfl, hu8⟩, ho8⟩)
                | (go_at_call 11; refine (Out_any rises u8 l n x w8 hu8.recs).mono ?_; rintro e w9 ⟨⟨v9, rfl, h9⟩, ho9⟩))
              rw [HEx.out, if_pos rfl] at h9
              rw [HEx.out]
              have o9 : Old w5 w9 := ((oq.drew).trans ho8).trans ho9
              have c9 := (ho8.trans ho9).cell cy
              have HB9 := Lib.hid (has_any v9 (outOf l n x) y w9 h9.ints)
              have hin : y ∈ outOf l n x := below_mem.2 ⟨Hy.out.1, by simpa using Hy.out.2, Hst.out⟩
              rw [decide_eq_true hin] at HB9
              clear hin
              have hj2 : (j : Int) + 1 < d + 1 := by omega
              clear h9 hu8
              go_wp2_with fail
              refine HB9.out.mono ?_
              rintro e w10 ⟨rfl, rfl⟩
              go_wp2_with fail
              go_roundw
              case rel => (repeat apply Exists.intro); exact ⟨⟨j + 2, by go_num, by omega, o9⟩, rfl⟩
              case measure => simp [intOf]; omega
          · obtain rfl : k = d + 1 := by omega
            have hk1 : ¬ (d : Int) + 1 < d + 1 := by omega
            go_wp2_with fail
            generalize wr = w6 at *
            go_loopw [18, 19] (fun x j wx => ∃ (k : Nat) (a : Int), x = .int .i64 a ∧ j = .int .i64 k ∧ k ≤ os.length ∧ k ≤ d ∧ Walk (edge l n) k s a ∧ 0 ≤ a ∧ a < n ∧ Old w5 wx) (fun _ j _ => d + 1 - (intOf j).toNat)
            case atStart => exact ⟨0, s, rfl, rfl, Nat.zero_le _, Nat.zero_le _, Walk.nil s, hs'.1, hs'.2, hw⟩
            case round =>
              clear hw
              obtain ⟨k, a, rfl, rfl, hk1, hk2, hwk, ha0, ha1, hw⟩ := hrel
              have Hwk := Lib.hid hwk
              have oT := o15.trans hw
              clear hwk
              by_cases h1 : k < os.length
              · by_cases h2 : k < d
                · have h1' : (k : Int) < os.length := by omega
                  have h2' : (k : Int) < d := by omega
                  obtain rfl := Hax.out (by omega)
                  have HEa := Lib.hid (Hone.out a ha0 ha1)
                  go_wp2_with fail
                  refine (twin_any v l _ (Hl.out.old oT) hz).mono ?_
                  rintro e w8 ⟨⟨u8, rfl, hu8⟩, ho8⟩
                  go_wp2_with fail
                  refine (Out_any rises u8 l n a w8 hu8.recs).mono ?_
                  rintro e w9 ⟨⟨v9, rfl, h9⟩, ho9⟩
                  rw [HEa.out, if_pos rfl] at h9
                  rw [HEa.out]
                  have o9 : Old w5 w9 := (hw.trans ho8).trans ho9
                  have oT9 := o15.trans o9
                  have cx := Htx.out k h1 w9 oT9
                  have hmem : ∀ y, y ∈ outOf l n a → edge l n a y = true := fun y hy => (below_mem.1 hy).2.2
                  have hrow : Hid (∀ q, q < (outOf l n a).length → edge l n a (ix (outOf l n a) q) = true) := fun q hq => hmem _ (ix_mem hq)
                  have hle : (outOf l n a).length ≤ n := by
                    have h := below_len (n : Int).toNat (edge l n a)
                    exact h
                  obtain ⟨a9, c9, b9, off9, rfl, hc91, hc92, ha9, ht9⟩ := h9.ints
                  have Ha9 := Lib.hid ha9
                  have Ht9 := Lib.hid ht9
                  clear h9 hu8 ha9 ht9 hmem
                  generalize outOf l n a = row at *
                  generalize hm : row.length = m at *
                  have Hm := Lib.hid hm
                  clear hm
                  by_cases hm0 : m = 0
                  · subst hm0
                    go_wp2_with fail
                    go_ret
                    exact ⟨rfl, oT9⟩
                  · have hm1 : ¬ (m : Int) = 0 := by omega
                    have hm2 : ((m : Int) == 0) = false := by rw [beq_eq_false_iff_ne]; exact hm1
                    obtain rfl := Ha9.out (by omega)
                    generalize ix os k = z at *
                    obtain ⟨r0, r1, r2, r3⟩ := rem_in z m (by omega)
                    obtain ⟨q, hq⟩ : ∃ q : Nat, (z.tmod m + m).tmod m = q := ⟨((z.tmod m + m).tmod m).toNat, by omega⟩
                    have hw1 : IntKind.i64.wrap (z.tmod m + m) = z.tmod m + m := IntWalk.i64_in _ (by omega)
                    have hq' : q < m := by omega
                    have cq := Ht9.out q hq' w9 (Old.refl _)
                    have hm3 := Hm.out
                    have Hq := Lib.hid (hrow.out q (by omega))
                    generalize ix row q = y at *
                    have HY := Lib.hid (Hhas.out w9 y o9 ⟨k + 1, Hwk.out.snoc Hq.out⟩)
                    have Hy := Lib.hid ((Hrng.out _ _ Hq.out).2)
                    have Hsh : Hid (y = t → ¬ k + 1 < d) := fun e h => by
                      have := HW.out.short (k + 1) (e ▸ Hwk.out.snoc Hq.out)
                      omega
                    clear hm3
                    go_upto_region 26 with fail
                    go_wp2_with fail
                    refine HY.out.mono ?_
                    rintro e w10 ⟨rfl, rfl⟩
                    by_cases hy : y = t
                    · have hb : (y == t) = true := by rw [beq_iff_eq]; exact hy
                      have hnl : ¬ (k : Int) + 1 < d := by have := Hsh.out hy; omega
                      have hnl2 : decide ((k : Int) + 1 < d) = false := decide_eq_false hnl
                      clear hy
                      go_wp2_with fail
                      go_roundw
                      case rel => exact ⟨k + 1, y, by trivial, by go_num, by omega, by omega, Hwk.out.snoc Hq.out, Hy.out.1, Hy.out.2, o9⟩
                      case measure => simp [intOf]; omega
                    · have hb : (y == t) = false := by rw [beq_eq_false_iff_ne]; exact hy
                      clear hy
                      go_wp2_with fail
                      go_roundw
                      case rel => exact ⟨k + 1, y, by trivial, by go_num, by omega, by omega, Hwk.out.snoc Hq.out, Hy.out.1, Hy.out.2, o9⟩
                      case measure => simp [intOf]; omega
                · have h1' : (k : Int) < os.length := by omega
                  have h2' : ¬ (k : Int) < d := by omega
                  go_wp2_with fail
                  go_ret
                  exact ⟨rfl, oT⟩
              · have h1' : ¬ (k : Int) < os.length := by omega
                go_wp2_with fail
                go_ret
                exact ⟨rfl, oT⟩
    · obtain ⟨rfl, hu⟩ := h5' hE2
      rw [asks_range hE1 hE2]
      obtain ⟨a5, cc5, rfl, _, _⟩ := ownsRow_form hu
      rw [List.length_nil]
      clear h5 h5' hE1 hE2 hu
      go_wp2_with fail
      go_ret
      exact ⟨rfl, o15⟩
  · have hb : (asksE l.length tp [s] != 0) = true := by rw [bne_iff_ne]; exact hE1
    obtain ⟨rfl, hu⟩ := h5' (asks_less hE1)
    obtain ⟨a5, cc5, rfl, _, _⟩ := ownsRow_form hu
    rw [List.length_nil]
    clear h3 h3' h5 h5' hu
    generalize asksE l.length tp [s] = E1 at *
    generalize asksE l.length tp [s, t] = E2 at *
    clear hE1
    go_wp2_with fail
    go_ret
    exact ⟨rfl, o15⟩
theorem linkWays_row_walk (W : World) (l : List Rfr) (v : Value) (g : Recs rfE W v l) (z : l.length * 56 ≤ 140737488351232) (tp : Int) (_ : -9223372036854775808 ≤ tp ∧ tp ≤ 9223372036854775807)
    (s : Int) (_ : -9223372036854775808 ≤ s ∧ s ≤ 9223372036854775807) (t : Int) (_ : -9223372036854775808 ≤ t ∧ t ≤ 9223372036854775807) (os : List Int) (vo : Value) (go : Ints W vo os)
    (_ : ∀ i, i < os.length → -9223372036854775808 ≤ ix os i ∧ ix os i ≤ 9223372036854775807) (_ : os.length * 8 ≤ 140737488351232) :
    Calls Try.prog 3 #[v, .int .i64 tp, .int .i64 s, .int .i64 t, vo] W fun e w' => e = .returned (.bool true) ∧ Old W w' := linkWays_any v vo l os tp s t W g go (by omega)
end Go.Proofs.Ytkaoipegbjmlnaa
