/-
  LINK: the walk of LinkBack.
-/
import Derived.Test.YtkaoipegbjmlnaaLinkN
import Derived.Deep.RegionHeld3
namespace Go.Proofs.Ytkaoipegbjmlnaa
open Go.RowKit
attribute [local go_sem] Old.refl Old.alloc Old.drew Old.setCell OldW.old

/-- who is alone is among those to whom none but itself refers -/
theorem lone_into (l : List Rfr) (n : Nat) (i : Int) : loneB l n i = true ↔ ∀ b, b ∈ intoOf l n i → b = i := by
  unfold loneB
  rw [Bool.not_eq_true']
  constructor
  · intro h b hb
    obtain ⟨_, _, he⟩ := below_mem.1 hb
    unfold edge at he
    obtain ⟨x, hx, hc⟩ := List.any_eq_true.1 he
    simp only [Bool.and_eq_true, beq_iff_eq] at hc
    obtain ⟨h1, h2, h3⟩ := hc
    by_cases e : x.f = x.t
    · omega
    · have hc2 : (cntR x n && (x.f != x.t && x.t == i)) = true := by
        rw [h1, h3, beq_self_eq_true, Bool.and_true, Bool.true_and, bne_iff_ne]
        rw [← h3]; exact e
      have this : (l.any fun x => cntR x n && (x.f != x.t && x.t == i)) = true := List.any_eq_true.2 ⟨x, hx, hc2⟩
      rw [h] at this
      cases this
  · intro h
    rw [Bool.eq_false_iff]
    intro hany
    obtain ⟨x, hx, hc⟩ := List.any_eq_true.1 hany
    simp only [Bool.and_eq_true, bne_iff_ne, beq_iff_eq] at hc
    obtain ⟨h1, h2, h3⟩ := hc
    obtain ⟨m, hm, hmn⟩ := cnt_from h1
    have := h x.f (below_mem.2 ⟨by omega, by simpa using (by omega : x.f < n), List.any_eq_true.2 ⟨x, hx, by simp [h1, h3]⟩⟩)
    omega
/-- to and from -/
theorem out_into (l : List Rfr) (n : Nat) (i b : Int) (hi : 0 ≤ i ∧ i < n) : b ∈ outOf l n i → (0 ≤ b ∧ b < n) ∧ i ∈ intoOf l n b := fun h => by
  obtain ⟨h0, h1, he⟩ := below_mem.1 h
  exact ⟨⟨h0, by simpa using h1⟩, below_mem.2 ⟨hi.1, by simpa using hi.2, he⟩⟩
theorem into_out (l : List Rfr) (n : Nat) (i b : Int) (hi : 0 ≤ i ∧ i < n) : b ∈ intoOf l n i → (0 ≤ b ∧ b < n) ∧ i ∈ outOf l n b := fun h => by
  obtain ⟨h0, h1, he⟩ := below_mem.1 h
  exact ⟨⟨h0, by simpa using h1⟩, below_mem.2 ⟨hi.1, by simpa using hi.2, he⟩⟩
set_option maxRecDepth 100000 in
set_option maxHeartbeats 1600000 in
theorem linkBack_any (v : Value) (l : List Rfr) (tp : Int) (w : World) (hl : Recs rfE w v l) (hz : l.length * 56 ≤ 140737488355328) :
    Calls Try.prog 5 #[v, .int .i64 tp] w fun e w' => e = .returned (.bool true) ∧ Old w w' := by
  have Hl := Lib.hid hl
  clear hl
  obtain ⟨t2, ht2⟩ : ∃ t2 : Int, min tp 30 = t2 := ⟨_, rfl⟩
  have Ht2 := Lib.hid ht2
  clear ht2
  go_enter Try.func5, Try.ntmps5
  go_wp2_with fail
  refine (awake_any _).mono ?_
  rintro e w1 ⟨rfl, o1⟩
  go_upto_region 3 with fail
  go_cut [1] (fun x wx => x = .int .i64 t2 ∧ w1 = wx)
  case first =>
    go_wp2_with fail
    go_meet
    exact ⟨by rw [Ht2.out], by trivial⟩
  case rest =>
    obtain ⟨rfl, rfl⟩ := hcut
    go_wp2_with fail
    refine (twin_any v l _ (Hl.out.old o1) hz).mono ?_
    rintro e w2 ⟨⟨u, rfl, hu⟩, o2⟩
    go_wp2_with fail
    refine (Orphans_any u l t2 w2 hu.recs).mono ?_
    rintro e w3 ⟨⟨v3, rfl, h3⟩, o3⟩
    have o13 := (o1.trans o2).trans o3
    by_cases hE : asksE l.length t2 [] = 0
    · rw [hE, if_pos rfl] at h3
      rw [hE]
      obtain ⟨hn, ht0, ht1, _⟩ := asks_ok hE
      obtain ⟨n, rfl⟩ : ∃ n : Nat, t2 = n := ⟨t2.toNat, by omega⟩
      have Hone : Hid (∀ i : Int, 0 ≤ i → i < n → asksE l.length n [i] = 0) := fun i h0 h1 => by
        unfold asksE
        rw [if_neg (by omega), if_neg (by omega), if_neg]
        simp; omega
      have I3 := Lib.hid h3.ints
      clear h3 hE
      go_wp2_with fail
      go_loopw [7] (fun j wr => ∃ i : Nat, j = .int .i64 i ∧ i ≤ n ∧ Old w3 wr) (fun j _ => n - (intOf j).toNat)
      case atStart => exact ⟨0, rfl, Nat.zero_le _, Old.refl _⟩
      case round =>
        obtain ⟨i, rfl, hi, ho⟩ := hrel
        by_cases hlt : i < n
        · have hi1 : (i : Int) < n := by omega
          have oT := o13.trans ho
          have hE1 := Lib.hid (Hone.out i (by omega) hi1)
          go_wp2_with fail
          refine (twin_any v l _ (Hl.out.old oT) hz).mono ?_
          rintro e w4 ⟨⟨u4, rfl, hu4⟩, o4⟩
          go_wp2_with fail
          refine (Out_any rises u4 l n i w4 hu4.recs).mono ?_
          rintro e w5 ⟨⟨v5, rfl, h5⟩, o5⟩
          rw [hE1.out, if_pos rfl] at h5
          rw [hE1.out]
          have oT5 := (oT.trans o4).trans o5
          go_wp2_with fail
          refine (twin_any v l _ (Hl.out.old oT5) hz).mono ?_
          rintro e w6 ⟨⟨u6, rfl, hu6⟩, o6⟩
          go_wp2_with fail
          refine (Into_any rises u6 l n i w6 hu6.recs).mono ?_
          rintro e w7 ⟨⟨v7, rfl, h7⟩, o7⟩
          rw [hE1.out, if_pos rfl] at h7
          rw [hE1.out]
          have oT7 := (oT5.trans o6).trans o7
          have Hrow : Hid (∀ k, k < (outOf l n i).length → (0 ≤ ix (outOf l n i) k ∧ ix (outOf l n i) k < n) ∧ (i : Int) ∈ intoOf l n (ix (outOf l n i) k)) := fun k hk => by
            have hm : ix (outOf l n i) k ∈ outOf l n i := by
              unfold ix
              rw [List.getD_eq_getElem?_getD, List.getElem?_eq_getElem hk]
              exact List.getElem_mem hk
            exact out_into l n i _ ⟨by omega, hi1⟩ hm
          have Hrow2 : Hid (∀ k, k < (intoOf l n i).length → (0 ≤ ix (intoOf l n i) k ∧ ix (intoOf l n i) k < n) ∧ (i : Int) ∈ outOf l n (ix (intoOf l n i) k)) := fun k hk => by
            have hm : ix (intoOf l n i) k ∈ intoOf l n i := by
              unfold ix
              rw [List.getD_eq_getElem?_getD, List.getElem?_eq_getElem hk]
              exact List.getElem_mem hk
            exact into_out l n i _ ⟨by omega, hi1⟩ hm
          obtain ⟨a5, c5, b5, off5, rfl, hc51, hc52, ha5, ht5⟩ := (h5.ints.old o6).old o7
          have Ha5 := Lib.hid ha5
          have Ht5 := Lib.hid ht5
          have I7 := Lib.hid h7.ints
          clear h5 h7 ha5 ht5 hu4 hu6
          go_wp2_with fail
          go_loopw [12] (fun j wr => ∃ k : Nat, j = .int .i64 k ∧ k ≤ (outOf l n i).length ∧ Old w7 wr) (fun j _ => (outOf l n i).length - (intOf j).toNat)
          case atStart => exact ⟨0, rfl, Nat.zero_le _, Old.refl _⟩
          case round =>
            obtain ⟨k, rfl, hk, hw⟩ := hrel
            by_cases hlt2 : k < (outOf l n i).length
            · obtain rfl := Ha5.out (by omega)
              have ck := Ht5.out k hlt2 wr hw
              obtain ⟨⟨hy0, hy1⟩, hin⟩ := Hrow.out k hlt2
              have HEy := Lib.hid (Hone.out _ hy0 hy1)
              have Hin := Lib.hid hin
              have hk2 : (k : Int) < (outOf l n i).length := by omega
              have oTr := oT7.trans hw
              clear hin
              generalize ix (outOf l n i) k = y at *
              go_upto_region 17 with fail
              go_region_held3 (fun w' => w'.cell? ⟨b5, off5 + k, none⟩ = some (.int .i64 y)) (first | go_keep | exact ho8.cell ck | exact (ho8.trans ho9).cell ck) (first
                | (go_at_call 8; refine (twin_any v l _ (Hl.out.old oTr.drew) hz).mono ?_; rintro e w8 ⟨⟨u8, rfl, hu8⟩, ho8⟩)
                | (go_at_call 14; refine (Into_any rises u8 l n y w8 hu8.recs).mono ?_; rintro e w9 ⟨⟨v9, rfl, h9⟩, ho9⟩))
              rw [HEy.out, if_pos rfl] at h9
              rw [HEy.out]
              have o9 : Old w7 w9 := ((hw.drew).trans ho8).trans ho9
              have HB := Lib.hid (has_any v9 (intoOf l n y) i w9 h9.ints)
              rw [decide_eq_true Hin.out] at HB
              clear h9 hu8
              go_wp2_with fail
              refine HB.out.mono ?_
              rintro e w10 ⟨rfl, rfl⟩
              go_wp2_with fail
              go_roundw
              case rel => exact ⟨k + 1, by go_num, by omega, o9⟩
              case measure => simp [intOf]; omega
            · obtain rfl : k = (outOf l n i).length := by omega
              have hk2 : ¬ ((outOf l n i).length : Int) < (outOf l n i).length := by omega
              obtain ⟨a7, c7, b7, off7, rfl, hc71, hc72, ha7, ht7⟩ := I7.out.old hw
              have Ha7 := Lib.hid ha7
              have Ht7 := Lib.hid ht7
              have I3r := Lib.hid ((((((I3.out.old ho).old o4).old o5).old o6).old o7).old hw)
              have oTr := oT7.trans hw
              have o3r := ((((ho.trans o4).trans o5).trans o6).trans o7).trans hw
              clear ha7 ht7
              generalize wr = wm at *
              go_wp2_with fail
              go_loopw [15, 16] (fun x j wr => ∃ k : Nat, j = .int .i64 k ∧ k ≤ (intoOf l n i).length ∧ x = .bool (decide (∀ m, m < k → ix (intoOf l n i) m = i)) ∧ Old wm wr) (fun _ j _ => (intoOf l n i).length - (intOf j).toNat)
              case atStart => exact ⟨0, rfl, Nat.zero_le _, by rw [decide_eq_true (fun m hm => absurd hm (Nat.not_lt_zero m))], Old.refl _⟩
              case round =>
                obtain ⟨k, rfl, hk, rfl, hw⟩ := hrel
                by_cases hlt3 : k < (intoOf l n i).length
                · obtain rfl := Ha7.out (by omega)
                  have ck := Ht7.out k hlt3 wr hw
                  obtain ⟨⟨hy0, hy1⟩, hin⟩ := Hrow2.out k hlt3
                  have HEy := Lib.hid (Hone.out _ hy0 hy1)
                  have Hin := Lib.hid hin
                  have hk3 : (k : Int) < (intoOf l n i).length := by omega
                  have oTw := oTr.trans hw
                  have Hst : Hid ((decide (∀ m, m < k → ix (intoOf l n i) m = i) && (ix (intoOf l n i) k == (i : Int))) = decide (∀ m, m < k + 1 → ix (intoOf l n i) m = i)) := by
                    show _ = _
                    rw [Bool.eq_iff_iff, Bool.and_eq_true, decide_eq_true_iff, decide_eq_true_iff, beq_iff_eq]
                    constructor
                    · rintro ⟨h1, h2⟩ m hm
                      rcases Nat.lt_or_ge m k with h | h
                      · exact h1 m h
                      · obtain rfl : m = k := by omega
                        exact h2
                    · intro h
                      exact ⟨fun m hm => h m (by omega), h k (by omega)⟩
                  clear hin
                  generalize decide (∀ m, m < k → ix (intoOf l n i) m = i) = al at *
                  generalize ix (intoOf l n i) k = y at *
                  go_upto_region 24 with fail
                  go_region_held3 (fun w' => w'.cell? ⟨b7, off7 + k, none⟩ = some (.int .i64 y)) (first | go_keep | exact ho8.cell ck | exact (ho8.trans ho9).cell ck) (first
                    | (go_at_call 8; refine (twin_any v l _ (Hl.out.old oTw.drew) hz).mono ?_; rintro e w8 ⟨⟨u8, rfl, hu8⟩, ho8⟩)
                    | (go_at_call 11; refine (Out_any rises u8 l n y w8 hu8.recs).mono ?_; rintro e w9 ⟨⟨v9, rfl, h9⟩, ho9⟩))
                  rw [HEy.out, if_pos rfl] at h9
                  rw [HEy.out]
                  have o9 : Old wm w9 := ((hw.drew).trans ho8).trans ho9
                  have c9 := (ho8.trans ho9).cell ck
                  have HB := Lib.hid (has_any v9 (outOf l n y) i w9 h9.ints)
                  rw [decide_eq_true Hin.out] at HB
                  clear h9 hu8
                  go_wp2_with fail
                  refine HB.out.mono ?_
                  rintro e w10 ⟨rfl, rfl⟩
                  cases al with
                  | true =>
                    go_wp2_with fail
                    go_roundw
                    case rel => exact ⟨k + 1, by go_num, by omega, by rw [← Hst.out]; simp, o9⟩
                    case measure => simp [intOf]; omega
                  | false =>
                    go_wp2_with fail
                    go_roundw
                    case rel => exact ⟨k + 1, by go_num, by omega, by rw [← Hst.out]; simp, o9⟩
                    case measure => simp [intOf]; omega
                · obtain rfl : k = (intoOf l n i).length := by omega
                  have hk3 : ¬ ((intoOf l n i).length : Int) < (intoOf l n i).length := by omega
                  have HB := Lib.hid (has_any v3 (loneOf l n) i wr (I3r.out.old hw))
                  have o3w := o3r.trans hw
                  have Hal : Hid (decide ((i : Int) ∈ loneOf l n) = decide (∀ m, m < (intoOf l n i).length → ix (intoOf l n i) m = i)) := by
                    show _ = _
                    rw [decide_eq_decide]
                    unfold loneOf
                    rw [below_mem, lone_into]
                    constructor
                    · rintro ⟨_, _, h⟩ m hm
                      refine h _ ?_
                      unfold ix
                      rw [List.getD_eq_getElem?_getD, List.getElem?_eq_getElem hm]
                      exact List.getElem_mem hm
                    · intro h
                      refine ⟨by omega, by simpa using hi1, fun b hb => ?_⟩
                      obtain ⟨m, hm, e⟩ := List.mem_iff_getElem.1 hb
                      have h2 : ix (intoOf l n i) m = b := by
                        unfold ix
                        rw [List.getD_eq_getElem?_getD, List.getElem?_eq_getElem hm]
                        exact e
                      rw [← h2]
                      exact h m hm
                  rw [Hal.out] at HB
                  generalize decide (∀ m, m < (intoOf l n i).length → ix (intoOf l n i) m = i) = al at *
                  go_wp2_with fail
                  refine HB.out.mono ?_
                  rintro e w10 ⟨rfl, rfl⟩
                  cases al with
                  | true =>
                    go_wp2_with fail
                    go_roundw
                    case rel => exact ⟨i + 1, by go_num, by omega, o3w⟩
                    case measure => simp [intOf]; omega
                  | false =>
                    go_wp2_with fail
                    go_roundw
                    case rel => exact ⟨i + 1, by go_num, by omega, o3w⟩
                    case measure => simp [intOf]; omega
        · obtain rfl : i = n := by omega
          have hi1 : ¬ (i : Int) < i := by omega
          go_wp2_with fail
          go_ret
          exact ⟨rfl, o13.trans ho⟩
    · rw [if_neg hE] at h3
      have hb : (asksE l.length t2 [] != 0) = true := by rw [bne_iff_ne]; exact hE
      obtain ⟨a3, c3, rfl, _, _⟩ := ownsRow_form h3
      rw [List.length_nil]
      generalize asksE l.length t2 [] = E at *
      clear hE h3
      go_wp2_with fail
      go_ret
      exact ⟨rfl, o13⟩
theorem linkBack_row_walk (W : World) (l : List Rfr) (v : Value) (g : Recs rfE W v l) (z : l.length * 56 ≤ 140737488351232) (tp : Int) (_ : -9223372036854775808 ≤ tp ∧ tp ≤ 9223372036854775807) :
    Calls Try.prog 5 #[v, .int .i64 tp] W fun e w' => e = .returned (.bool true) ∧ Old W w' := linkBack_any v l tp W g (by omega)
end Go.Proofs.Ytkaoipegbjmlnaa
