/-
  LINK, E: who is alone.
-/
import Derived.Test.YtkaoipegbjmlnaaDoorZLinkD
namespace Go.Proofs.YtkaoipegbjmlnaaDoor
open Go.RowKit
attribute [local go_sem] Old.refl Old.alloc Old.drew Old.setCell OldW.old

/-- a mark for each topic that another refers to -/
def seenR (l : List Rfr) (n : Nat) : List Int := (List.range n).map fun j : Nat => if loneB l n j = true then 0 else 1
theorem seenR_len (l : List Rfr) (n : Nat) : (seenR l n).length = n := by simp [seenR]
theorem seenR_get {l : List Rfr} {n j : Nat} (h : j < n) : (seenR l n)[j]? = some (if loneB l n j = true then 0 else 1) := by
  unfold seenR
  rw [List.getElem?_map, List.getElem?_range h]; rfl
theorem seenR_ix {l : List Rfr} {n j : Nat} (h : j < n) : ix (seenR l n) j = if loneB l n j = true then 0 else 1 := by
  unfold ix
  rw [List.getD_eq_getElem?_getD, seenR_get h]; rfl
theorem seenR_nil (n : Nat) : seenR [] n = List.replicate n 0 := by
  refine List.ext_getElem? fun j => ?_
  by_cases h : j < n
  · rw [seenR_get h, List.getElem?_replicate, if_pos h]; rfl
  · rw [List.getElem?_eq_none (by rw [seenR_len]; omega), List.getElem?_eq_none (by simp; omega)]
theorem lone_snoc (l : List Rfr) (x : Rfr) (tp i : Int) : loneB (l ++ [x]) tp i = (loneB l tp i && !(cntR x tp && (x.f != x.t && x.t == i))) := by
  unfold loneB
  rw [List.any_append]; simp
theorem seenR_skip {l : List Rfr} {x : Rfr} {n : Nat} (h : (cntR x n && x.f != x.t) = false) : seenR (l ++ [x]) n = seenR l n := by
  unfold seenR
  refine List.map_congr_left fun j _ => ?_
  rw [lone_snoc, ← Bool.and_assoc, h]; simp
theorem seenR_set {l : List Rfr} {x : Rfr} {n m : Nat} (h : (cntR x n && x.f != x.t) = true) (ht : x.t = m) : seenR (l ++ [x]) n = (seenR l n).set m 1 := by
  refine List.ext_getElem? fun j => ?_
  by_cases hj : j < n
  · rw [seenR_get hj, lone_snoc, ← Bool.and_assoc, h, ht]
    by_cases e : m = j
    · subst e
      rw [List.getElem?_set_self (by rw [seenR_len]; exact hj)]; simp
    · rw [List.getElem?_set_ne e, seenR_get hj]
      have : ((m : Int) == (j : Int)) = false := by rw [beq_eq_false_iff_ne]; omega
      rw [this]; simp
  · rw [List.getElem?_eq_none (by rw [seenR_len]; omega), List.getElem?_eq_none (by rw [List.length_set, seenR_len]; omega)]
theorem asks_ok {n : Nat} {tp : Int} {s : List Int} (h : asksE n tp s = 0) : n ≤ 65536 ∧ 0 ≤ tp ∧ tp ≤ 1000 ∧ ∀ t ∈ s, 0 ≤ t ∧ t < tp := by
  unfold asksE at h
  split at h
  · cases h
  split at h
  · cases h
  split at h
  · cases h
  rename_i h1 h2 h3
  refine ⟨by omega, by omega, by omega, fun t ht => ?_⟩
  have : ¬ (decide (t < 0) || decide (tp ≤ t)) = true := fun e => h3 (List.any_eq_true.2 ⟨t, ht, e⟩)
  simp at this
  omega
theorem cnt_to {x : Rfr} {n : Nat} (h : cntR x n = true) : ∃ m : Nat, x.t = m ∧ m < n := by
  unfold cntR at h
  simp at h
  exact ⟨x.t.toNat, by omega, by omega⟩
theorem cnt_from {x : Rfr} {n : Nat} (h : cntR x n = true) : ∃ m : Nat, x.f = m ∧ m < n := by
  unfold cntR at h
  simp at h
  exact ⟨x.f.toNat, by omega, by omega⟩
theorem below_len (n : Nat) (p : Int → Bool) : (below n p).length ≤ n := by
  unfold below
  have := List.length_filter_le p ((List.range n).map fun k : Nat => (k : Int))
  simpa using this
set_option maxRecDepth 100000 in
set_option maxHeartbeats 1600000 in
theorem Orphans_any (v : Value) (l : List Rfr) (tp : Int) (w : World) (hl : Recs rfE w v l) :
    Calls Tryd.prog 20 #[v, .int .i64 tp] w fun e w' => RetL w w' (asksE l.length tp []) (loneOf l tp) e ∧ Old w w' := by
  obtain ⟨a, cap, b, off, rfl, hc1, hc2, ha, ht⟩ := hl
  have Ha := Lib.hid ha
  have Ht := Lib.hid ht
  have HC := Lib.hid (check_any a l.length cap tp (.slice none 0 0) [] w (Ints.nil w))
  clear ha ht
  by_cases hE : asksE l.length tp [] = 0
  · obtain ⟨hn, ht0, ht1, _⟩ := asks_ok hE
    obtain ⟨n, rfl⟩ : ∃ n : Nat, tp = n := ⟨tp.toNat, by omega⟩
    rw [hE] at HC ⊢
    clear hE
    go_enter Tryd.func20, Tryd.ntmps20
    go_wp2_with fail
    refine HC.out.mono ?_
    rintro e w1 ⟨rfl, rfl⟩
    go_wp2_with (at_make; refine wpList_make_ints (w0 := w) rfl _ _ 59 rfl 3 Tryd.underlying59 infoInt n rfl rfl (by omega) (Old.refl w) ?_; intro w2 hown ho2 hs2)
    go_loopw [23] (fun j wr => ∃ k : Nat, j = .int .i64 k ∧ k ≤ l.length ∧ OwnI 3 w wr (.slice (some ⟨w.heap.size, 0, none⟩) n n) (seenR (l.take k) n) ∧ Old w wr) (fun j _ => l.length - (intOf j).toNat)
    case atStart => exact ⟨0, rfl, Nat.zero_le _, by rw [List.take_zero, seenR_nil]; exact hown, ho2⟩
    case round =>
      obtain ⟨k, rfl, hk, hS, ho⟩ := hrel
      clear ho2 hown hs2
      have HS := Lib.hid hS
      clear hS
      by_cases hlt : k < l.length
      · have hi : (k : Int) < l.length := by omega
        obtain rfl := Ha.out (by omega)
        obtain ⟨x, hx⟩ : ∃ x, l[k]? = some x := ⟨_, List.getElem?_eq_getElem hlt⟩
        have K := Recs.six Ht.out hx
        have k0 := (K wr ho).1
        have k1 := (K wr ho).2.1
        have k2 := (K wr ho).2.2.1
        have k3 := (K wr ho).2.2.2.1
        have k4 := (K wr ho).2.2.2.2.1
        have k5 := (K wr ho).2.2.2.2.2
        have Hsn := Lib.hid (show l.take (k + 1) = l.take k ++ [x] from by
          rw [List.take_succ_eq_append_getElem hlt, (List.getElem?_eq_some_iff.1 hx).2])
        have HCt := Lib.hid (fun V => counts_any x n V)
        unfold rfV at HCt
        have Hto : Hid (cntR x n = true → ∃ m : Nat, x.t = m ∧ m < n) := cnt_to
        have Hskip : Hid ((cntR x n && x.f != x.t) = false → seenR (l.take k ++ [x]) n = seenR (l.take k) n) := seenR_skip
        have Hset : Hid ((cntR x n && x.f != x.t) = true → ∀ m : Nat, x.t = m → seenR (l.take k ++ [x]) n = (seenR (l.take k) n).set m 1) := fun h m hm => seenR_set h hm
        have Hlen := Lib.hid (seenR_len (l.take k) n)
        clear K hx
        rw [← Hsn.out] at Hskip Hset
        generalize cntR x n = c at *
        obtain ⟨xf, xt, xn, xs, xl, xc⟩ := x
        dsimp only at *
        generalize seenR (l.take k) n = S0 at *
        have hb0 : ∀ V, Old (wr.alloc (.cells #[.int .i64 xf, .int .i64 xt, .int .i64 xn, .string xs, .int .i64 xl, .int .i64 xc] 43)) V → V.cell? ⟨wr.heap.size, 0, none⟩ = some (.int .i64 xf) := fun V o => o.cell (by simp [go_sem])
        have hb1 : ∀ V, Old (wr.alloc (.cells #[.int .i64 xf, .int .i64 xt, .int .i64 xn, .string xs, .int .i64 xl, .int .i64 xc] 43)) V → V.cell? ⟨wr.heap.size, 1, none⟩ = some (.int .i64 xt) := fun V o => o.cell (by simp [go_sem])
        have oa : Old wr (wr.alloc (.cells #[.int .i64 xf, .int .i64 xt, .int .i64 xn, .string xs, .int .i64 xl, .int .i64 xc] 43)) := (Old.refl wr).alloc _
        go_wp2_with fail
        refine (HCt.out _).mono ?_
        rintro e w3 ⟨rfl, ho3⟩
        have c0 := hb0 w3 ho3
        have c1 := hb1 w3 ho3
        have o3 : Old w w3 := (ho.trans oa).trans ho3
        have HS3 := Lib.hid (HS.out.old (oa.trans ho3))
        clear hb0 hb1 oa
        cases c with
        | false =>
          have Hs := Lib.hid (Hskip.out rfl)
          go_wp2_with fail
          go_roundw
          case rel => exact ⟨k + 1, by go_num, by omega, by rw [Hs.out]; exact HS3.out, o3⟩
          case measure => simp [intOf]; omega
        | true =>
          by_cases hk2 : xf = xt
          · have hbq : (xf != xt) = false := by rw [bne_eq_false_iff_eq]; exact hk2
            have Hs := Lib.hid (Hskip.out hbq)
            clear hk2
            go_wp2_with fail
            go_roundw
            case rel => exact ⟨k + 1, by go_num, by omega, by rw [Hs.out]; exact HS3.out, o3⟩
            case measure => simp [intOf]; omega
          · have hbq : (xf != xt) = true := by rw [bne_iff_ne]; exact hk2
            obtain ⟨m, hm, hmn⟩ := Hto.out rfl
            have Hs := Lib.hid (Hset.out hbq m hm)
            subst hm
            have c2 := HS3.out.cell (k := m) (by rw [Hlen.out]; exact hmn)
            have f2 := HS3.out.frozen m
            have hmi : (m : Int) < n := by omega
            clear hk2
            go_wp2_with fail
            go_roundw
            case rel => exact ⟨k + 1, by go_num, by omega, by rw [Hs.out]; exact HS3.out.stored m 1, o3.setCell (p := ⟨w.heap.size, m, none⟩) (Nat.le_refl _) _⟩
            case measure => simp [intOf]; omega
      · obtain rfl : k = l.length := by omega
        rw [List.take_length] at HS
        have hi : ¬ (l.length : Int) < l.length := by omega
        have Hcell : Hid (∀ i, i < n → ∀ V, Old wr V → V.cell? ⟨w.heap.size, i, none⟩ = some (.int .i64 (if loneB l n i = true then 0 else 1))) := fun i hi V o => by
          have := o.cell (HS.out.cell (k := i) (by rw [seenR_len]; exact hi))
          rw [seenR_ix hi] at this
          exact this
        go_wp2_with fail
        have hsz := ho.size
        generalize wr = w4 at *
        go_loopw [10, 44] (fun x j wr => ∃ k : Nat, j = .int .i64 k ∧ k ≤ n ∧ OwnI 3 w4 wr x (below k (loneB l n)) ∧ Old w4 wr) (fun _ j _ => n - (intOf j).toNat)
        case atStart => exact ⟨0, rfl, Nat.zero_le _, OwnI.nil _ _ _, Old.refl _⟩
        case round =>
          obtain ⟨k, rfl, hk, hown, ho4⟩ := hrel
          have Hown := Lib.hid hown
          have hlb := below_len k (loneB l n)
          have Hsn := Lib.hid (below_snoc k (loneB l n))
          clear hown
          by_cases hlt : k < n
          · have hi2 : (k : Int) < n := by omega
            have c0 := Hcell.out k hlt wr ho4
            cases hlo : loneB l n k with
            | true =>
              rw [hlo] at c0 Hsn
              rw [if_pos rfl] at c0 Hsn
              clear hlo
              generalize below k (loneB l n) = raw at *
              go_wp2_with (at_builtin; refine wpList_append_ints (w0 := w4) rfl _ _ 59 rfl 3 Tryd.underlying59 infoInt _ raw [(k : Int)] rfl (Hown.out.alloc _) _ rfl (Ints.one _ _ (k : Int)) (by simp; omega) (ho4.alloc _) ?_; intro v5 w5 hown5 ho5 _)
              go_roundw
              case rel => exact ⟨k + 1, by go_num, by omega, by rw [Hsn.out]; exact hown5, ho5⟩
              case measure => simp [intOf]; omega
            | false =>
              rw [hlo] at c0 Hsn
              rw [if_neg Bool.false_ne_true] at c0 Hsn
              rw [List.append_nil] at Hsn
              clear hlo
              go_wp2_with fail
              go_roundw
              case rel => exact ⟨k + 1, by go_num, by omega, by rw [Hsn.out]; exact Hown.out, ho4⟩
              case measure => simp [intOf]; omega
          · obtain rfl : k = n := by omega
            have hi2 : ¬ (k : Int) < k := by omega
            go_wp2_with fail
            go_ret2
            exact ⟨⟨_, rfl, by rw [if_pos rfl]; exact Hown.out.lower hsz⟩, ho.trans ho4⟩
  · have hb : (asksE l.length tp [] != 0) = true := by rw [bne_iff_ne]; exact hE
    have Hne := Lib.hid hE
    generalize asksE l.length tp [] = E at *
    clear hE
    go_enter Tryd.func20, Tryd.ntmps20
    go_wp2_with fail
    refine HC.out.mono ?_
    rintro e w1 ⟨rfl, rfl⟩
    go_wp2_with fail
    go_ret2
    exact ⟨⟨_, rfl, by rw [if_neg Hne.out]; exact OwnI.nil _ _ _⟩, Old.refl _⟩
end Go.Proofs.YtkaoipegbjmlnaaDoor
