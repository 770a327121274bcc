/-
  LINK, THE DOCUMENT's, R: the grid is made.
-/
import Derived.Test.YtkaoipegbjmlnaaLinkG
import Derived.Test.YtkaoipegbjmlnaaLinkF
namespace Go.Proofs.Ytkaoipegbjmlnaa
open Go.RowKit
attribute [local go_sem] Old.refl Old.alloc Old.drew Old.setCell OldW.old

/-- n places, of which the first m bear a row of n Bools of its own each -/
structure GRows (w0 w : World) (G n m : Nat) (B : Nat → Nat) (M : Nat → List Bool) : Prop where
  head : OwnS (slcE n) 54 w0 w (.slice (some ⟨G, 0, none⟩) n n) ((List.range n).map fun i => if i < m then some (B i) else none)
  rows : ∀ i, i < m → OwnS boolE 4 w0 w (.slice (some ⟨B i, 0, none⟩) n n) (M i)
  notG : ∀ i, i < m → B i ≠ G
  apart : ∀ i j, i < m → j < m → i ≠ j → B i ≠ B j
section
variable {w0 w w' : World} {G n m : Nat} {B : Nat → Nat} {M : Nat → List Bool}
theorem GRows.old (h : GRows w0 w G n m B M) (o : Old w w') : GRows w0 w' G n m B M := ⟨h.head.old o, fun i hi => (h.rows i hi).old o, h.notG, h.apart⟩
theorem GRows.congr {M' : Nat → List Bool} (h : GRows w0 w G n m B M) (e : ∀ i, i < m → M i = M' i) : GRows w0 w G n m B M' := ⟨h.head, fun i hi => by rw [← e i hi]; exact h.rows i hi, h.notG, h.apart⟩
theorem GRows.start (h : OwnS (slcE n) 54 w0 w (.slice (some ⟨G, 0, none⟩) n n) (List.replicate n none)) : GRows w0 w G n 0 B M := by
  refine ⟨?_, fun i hi => absurd hi (Nat.not_lt_zero i), fun i hi => absurd hi (Nat.not_lt_zero i), fun i j hi => absurd hi (Nat.not_lt_zero i)⟩
  have e : ((List.range n).map fun i => if i < 0 then some (B i) else none) = List.replicate n none := by
    refine List.ext_getElem? fun j => ?_
    rw [List.getElem?_map, List.getElem?_replicate]
    by_cases h : j < n
    · rw [List.getElem?_range h, if_pos h]; rfl
    · rw [List.getElem?_eq_none (by simp; omega), if_neg h]; rfl
  rw [e]; exact h
theorem GRows.lt (h : GRows w0 w G n m B M) : w0.heap.size ≤ G ∧ G < w.heap.size := World.ownsRow.lt h.head G rfl
theorem GRows.rlt (h : GRows w0 w G n m B M) {i : Nat} (hi : i < m) : w0.heap.size ≤ B i ∧ B i < w.heap.size := World.ownsRow.lt (h.rows i hi) (B i) rfl
theorem GRows.cell (h : GRows w0 w G n m B M) {i : Nat} (hi : i < n) : w.cell? ⟨G, i, none⟩ = some (if i < m then .slice (some ⟨B i, 0, none⟩) n n else .slice none 0 0) := by
  have := h.head.cell (i := i) (j := 0) (x := if i < m then some (B i) else none) (u := if i < m then .slice (some ⟨B i, 0, none⟩) n n else .slice none 0 0) (by rw [List.getElem?_map, List.getElem?_range hi]; rfl) (by by_cases h : i < m <;> simp [slcE, h])
  simpa [slcE] using this
theorem GRows.frozen (h : GRows w0 w G n m B M) (i : Nat) : w.frozen? ⟨G, i, none⟩ = false := h.head.frozen i
theorem GRows.rcell (h : GRows w0 w G n m B M) {i j : Nat} {b : Bool} (hi : i < m) (hj : (M i)[j]? = some b) : w.cell? ⟨B i, j, none⟩ = some (.bool b) := by
  have := (h.rows i hi).cell (i := j) (j := 0) (x := b) (u := .bool b) hj rfl
  simpa [boolE] using this
theorem GRows.rfrozen (h : GRows w0 w G n m B M) {i : Nat} (hi : i < m) (j : Nat) : w.frozen? ⟨B i, j, none⟩ = false := (h.rows i hi).frozen j
/-- one row more -/
theorem GRows.more {w1 : World} {row : List Bool} (h : GRows w0 w G n m B M) (hm : m < n) (o : Old w w1) (hr : OwnS boolE 4 w0 w1 (.slice (some ⟨w.heap.size, 0, none⟩) n n) row) :
    GRows w0 (w1.setCell ⟨G, m, none⟩ (.slice (some ⟨w.heap.size, 0, none⟩) n n)) G n (m + 1) (fun i => if i = m then w.heap.size else B i) (fun i => if i = m then row else M i) := by
  have h1 := h.old o
  have hG := h.lt.2
  refine ⟨?_, fun i hi => ?_, fun i hi => ?_, fun i j hi hj hij => ?_⟩
  · have hs := OwnS.stored h1.head (i := m) (j := 0) (x := none) (x' := some w.heap.size) (u := .slice (some ⟨w.heap.size, 0, none⟩) n n) (by rw [List.getElem?_map, List.getElem?_range hm]; simp) (Nat.zero_lt_succ 0) rfl
    rw [range_set] at hs
    have e : ((List.range n).map fun j => if j = m then some w.heap.size else if j < m then some (B j) else none) = (List.range n).map fun i => if i < m + 1 then some (if i = m then w.heap.size else B i) else none := by
      refine List.map_congr_left fun j _ => ?_
      by_cases e : j = m
      · subst e; simp
      · by_cases e2 : j < m
        · simp [e, e2, Nat.lt_succ_of_lt e2]
        · simp [e, e2, show ¬ j < m + 1 by omega]
    rw [e] at hs
    simpa [slcE] using hs
  · try dsimp only
    by_cases e : i = m
    · rw [if_pos e, if_pos e]
      exact hr.kept (grown_set _ _ _ _) (.inr (by show some w.heap.size ≠ some G; intro e; have := Option.some.inj e; omega))
    · rw [if_neg e, if_neg e]
      exact (h1.rows i (by omega)).kept (grown_set _ _ _ _) (.inr (by show some (B i) ≠ some G; intro e2; exact h.notG i (by omega) (Option.some.inj e2)))
  · try dsimp only
    by_cases e : i = m
    · rw [if_pos e]; omega
    · rw [if_neg e]; exact h.notG i (by omega)
  · try dsimp only
    by_cases e : i = m
    · rw [if_pos e, if_neg (by omega)]
      have := (h.rlt (i := j) (by omega)).2
      omega
    · rw [if_neg e]
      by_cases e2 : j = m
      · rw [if_pos e2]
        have := (h.rlt (i := i) (by omega)).2
        omega
      · rw [if_neg e2]; exact h.apart i j (by omega) (by omega) hij
/-- one place is marked -/
theorem GRows.mark (h : GRows w0 w G n m B M) {i j : Nat} (hi : i < m) {b : Bool} (hj : (M i)[j]? = some b) (x : Bool) :
    GRows w0 (w.setCell ⟨B i, j, none⟩ (.bool x)) G n m B (fun k => if k = i then (M i).set j x else M k) := by
  refine ⟨?_, fun k hk => ?_, h.notG, h.apart⟩
  · exact h.head.kept (grown_set _ _ _ _) (.inr (by show some G ≠ some (B i); intro e; exact h.notG i hi (Option.some.inj e).symm))
  · try dsimp only
    by_cases e : k = i
    · subst e
      rw [if_pos rfl]
      have hs := OwnS.stored (h.rows k hk) (i := j) (j := 0) (x := b) (x' := x) (u := .bool x) hj (by decide) rfl
      simpa [boolE] using hs
    · rw [if_neg e]
      exact (h.rows k hk).kept (grown_set _ _ _ _) (.inr (by show some (B k) ≠ some (B i); intro e2; exact h.apart k i hk hi e (Option.some.inj e2)))
theorem GRows.grid {E : Int → Int → Bool} (h : GRows w0 w G n n B M) (hM : ∀ i, i < n → M i = (List.range n).map fun j : Nat => E i j) : Grid w (.slice (some ⟨G, 0, none⟩) n n) n E := by
  refine ⟨G, (List.range n).map B, rfl, by simp, fun i g hg => ?_⟩
  have hi : i < n := by have := (List.getElem?_eq_some_iff.1 hg).1; simpa using this
  rw [List.getElem?_map, List.getElem?_range hi] at hg
  obtain rfl := Option.some.inj hg
  refine ⟨fun W o => ?_, fun j hj W o => ?_⟩
  · have := o.cell (h.cell hi)
    rw [if_pos hi] at this; exact this
  · exact o.cell (h.rcell hi (j := j) (b := E i j) (by rw [hM i hi, List.getElem?_map, List.getElem?_range hj]; rfl))
end
theorem undSSB : Try.prog.underlying 51 = some (.slice 54) := Try.underlying51
theorem asks_len {n : Nat} {tp : Int} {s : List Int} (h : 65536 < n) : asksE n tp s = 2 := if_pos h
set_option maxRecDepth 100000 in
set_option maxHeartbeats 1600000 in
theorem grid_any (v vs : Value) (l : List Rfr) (tp : Int) (qs : List Int) (w : World) (hl : Recs rfE w v l) (hq : Ints w vs qs) :
    Calls Try.prog 26 #[v, .int .i64 tp, vs] w fun e w' => RetG w' (asksE l.length tp qs) tp.toNat (edge l tp) e ∧ Old w w' := by
  obtain ⟨a, cap, b, off, rfl, hc1, hc2, ha, ht⟩ := hl
  have Ha := Lib.hid ha
  have Ht := Lib.hid ht
  obtain ⟨av, cv, bv, offv, rfl, hcv1, hcv2, hav, htv⟩ := hq
  have Hav := Lib.hid hav
  have Htv := Lib.hid htv
  clear ha ht hav htv
  by_cases h1 : 65536 < l.length
  · have hd : decide ((65536 : Int) < l.length) = true := by simp; omega
    have He := Lib.hid (show asksE l.length tp qs = 2 from if_pos h1)
    clear h1
    go_enter Try.func26, Try.ntmps26
    go_wp2_with fail
    go_ret2
    exact ⟨⟨_, by rw [He.out]; rfl, fun h => by rw [He.out] at h; cases h⟩, Old.refl _⟩
  · have hd : decide ((65536 : Int) < l.length) = false := by simp; omega
    by_cases h2 : tp < 0 ∨ 1000 < tp
    · have He := Lib.hid (show asksE l.length tp qs = 1 from by unfold asksE; rw [if_neg h1, if_pos h2])
      by_cases h3 : tp < 0
      · have hd3 : decide (tp < 0) = true := by simpa using h3
        clear h1 h2 h3
        go_enter Try.func26, Try.ntmps26
        go_wp2_with fail
        go_ret2
        exact ⟨⟨_, by rw [He.out]; rfl, fun h => by rw [He.out] at h; cases h⟩, Old.refl _⟩
      · have hd3 : decide (tp < 0) = false := by simpa using h3
        have hd4 : decide (1000 < tp) = true := by simp; omega
        clear h1 h2 h3
        go_enter Try.func26, Try.ntmps26
        go_wp2_with fail
        go_ret2
        exact ⟨⟨_, by rw [He.out]; rfl, fun h => by rw [He.out] at h; cases h⟩, Old.refl _⟩
    · obtain ⟨n, rfl⟩ : ∃ n : Nat, tp = n := ⟨tp.toNat, by omega⟩
      have hn : n ≤ 1000 := by omega
      have hd3 : decide ((n : Int) < 0) = false := by simp
      have hd4 : decide ((1000 : Int) < n) = false := by simp; omega
      have He := Lib.hid (show asksE l.length n qs = if qs.any (fun t => decide (t < 0) || decide ((n : Int) ≤ t)) = true then 1 else 0 from by unfold asksE; rw [if_neg h1, if_neg h2])
      clear h2
      go_enter Try.func26, Try.ntmps26
      go_wp2_with fail
      go_loopw [8] (fun j wr => ∃ k : Nat, j = .int .i64 k ∧ k ≤ qs.length ∧ (qs.take k).any (fun t => decide (t < 0) || decide ((n : Int) ≤ t)) = false ∧ w = wr) (fun j _ => qs.length - (intOf j).toNat)
      case atStart => exact ⟨0, rfl, Nat.zero_le _, rfl, by trivial⟩
      case round =>
        obtain ⟨k, rfl, hk, hany, rfl⟩ := hrel
        have Hany := Lib.hid hany
        clear hany
        by_cases hlt : k < qs.length
        · have hi : (k : Int) < qs.length := by omega
          obtain rfl := Hav.out (by omega)
          have c0 := Htv.out k hlt w (Old.refl w)
          have hx : qs[k]? = some (ix qs k) := by unfold ix; rw [List.getD_eq_getElem?_getD, List.getElem?_eq_getElem hlt]; rfl
          have Hmem := Lib.hid (List.mem_of_getElem? hx)
          have Hsn := Lib.hid (show (qs.take (k + 1)).any (fun t => decide (t < 0) || decide ((n : Int) ≤ t)) = ((qs.take k).any (fun t => decide (t < 0) || decide ((n : Int) ≤ t)) || (decide (ix qs k < 0) || decide ((n : Int) ≤ ix qs k))) from by
            rw [List.take_succ_eq_append_getElem hlt, List.any_append, (List.getElem?_eq_some_iff.1 hx).2]; simp)
          clear hx
          generalize ix qs k = t at *
          by_cases hb : t < 0 ∨ (n : Int) ≤ t
          · have He1 := Lib.hid (show asksE l.length n qs = 1 from by
              rw [He.out, if_pos]
              exact List.any_eq_true.2 ⟨t, Hmem.out, by simpa using hb⟩)
            by_cases ht : t < 0
            · have hd5 : decide (t < 0) = true := by simpa using ht
              clear hb ht
              go_wp2_with fail
              go_ret2
              exact ⟨⟨_, by rw [He1.out]; rfl, fun h => by rw [He1.out] at h; cases h⟩, Old.refl _⟩
            · have hd5 : decide (t < 0) = false := by simpa using ht
              have hd6 : decide ((n : Int) ≤ t) = true := by simp; omega
              clear hb ht
              go_wp2_with fail
              go_ret2
              exact ⟨⟨_, by rw [He1.out]; rfl, fun h => by rw [He1.out] at h; cases h⟩, Old.refl _⟩
          · have hd5 : decide (t < 0) = false := by simp; omega
            have hd6 : decide ((n : Int) ≤ t) = false := by simp; omega
            have Hnx : Hid ((qs.take (k + 1)).any (fun t => decide (t < 0) || decide ((n : Int) ≤ t)) = false) := by
              show _ = _
              rw [Hsn.out, Hany.out, hd5, hd6]; rfl
            clear hb
            go_wp2_with fail
            go_roundw
            case rel => exact ⟨k + 1, by go_num, by omega, Hnx.out, by trivial⟩
            case measure => simp [intOf]; omega
        · obtain rfl : k = qs.length := by omega
          have h0 := Hany.out
          rw [List.take_length] at h0
          have He0 := Lib.hid (show asksE l.length n qs = 0 from by rw [He.out, h0]; rfl)
          have hi0 : ¬ (qs.length : Int) < qs.length := by omega
          clear h0 He Hany
          go_wp2_with (at_make; refine wpList_make_enc (c := slcE n) (w0 := w) rfl _ _ 51 rfl 54 undSSB _ infoSlB rfl rfl none rfl n rfl rfl (by omega) (by omega) (Old.refl w) ?_; intro w2 hown ho2 hs2)
          generalize hG : w.heap.size = G at *
          have hGw : w.heap.size ≤ G := by omega
          clear hG
          go_loopw [10] (fun j wr => ∃ (k : Nat) (B : Nat → Nat), j = .int .i64 k ∧ k ≤ n ∧ GRows w wr G n k B (fun _ => List.replicate n false) ∧ Old w wr) (fun j _ => n - (intOf j).toNat)
          case atStart => exact ⟨0, fun _ => 0, rfl, Nat.zero_le _, GRows.start hown, ho2⟩
          case round =>
            clear hown ho2 hs2
            obtain ⟨k, B, rfl, hk, hR, ho⟩ := hrel
            have HR := Lib.hid hR
            clear hR
            by_cases hlt : k < n
            · have hi2 : (k : Int) < n := by omega
              go_wp2_with (at_make; refine wpList_make_enc (c := boolE) (w0 := w) rfl _ _ 54 rfl 4 Try.underlying54 _ infoBool rfl rfl false rfl n rfl rfl (by omega) (by omega) ho ?_; intro w5 hown5 ho5 hs5; have c5 := ho5.cell (HR.out.cell hlt); have f5 := (HR.out.old ho5).frozen k; rw [if_neg (Nat.lt_irrefl k)] at c5)
              go_roundw
              case rel => exact ⟨k + 1, _, by go_num, by omega, (HR.out.more hlt ho5 hown5).congr (fun i _ => by simp), (ho.trans ho5).setCell (p := ⟨G, k, none⟩) hGw _⟩
              case measure => simp [intOf]; omega
            · obtain rfl : k = n := by omega
              have hi2 : ¬ (k : Int) < k := by omega
              have HR0 : Hid (GRows w wr G k k B (fun i => rowM (l.take 0) k k i)) := HR.out.congr (fun i _ => by rw [List.take_zero, rowM_nil])
              clear HR
              go_wp2_with fail
              go_loopw [11] (fun j wr => ∃ q : Nat, j = .int .i64 q ∧ q ≤ l.length ∧ GRows w wr G k k B (fun i => rowM (l.take q) k k i) ∧ Old w wr) (fun j _ => l.length - (intOf j).toNat)
              case atStart => exact ⟨0, rfl, Nat.zero_le _, HR0.out, ho⟩
              case round =>
                clear HR0 ho
                obtain ⟨q, rfl, hq, hR, ho⟩ := hrel
                have HR := Lib.hid hR
                clear hR
                by_cases hlt : q < l.length
                · have hi : (q : Int) < l.length := by omega
                  obtain rfl := Ha.out (by omega)
                  obtain ⟨x, hx⟩ : ∃ x, l[q]? = some x := ⟨_, List.getElem?_eq_getElem hlt⟩
                  have K := Recs.six Ht.out hx
                  have k0 := (K wr ho).1
                  have k1 := (K wr ho).2.1
                  have Hsn := Lib.hid (show l.take (q + 1) = l.take q ++ [x] from by
                    rw [List.take_succ_eq_append_getElem hlt, (List.getElem?_eq_some_iff.1 hx).2])
                  have Hskip : Hid (cntR x k = false → ∀ i, i < k → rowM (l.take q) k k i = rowM (l.take (q + 1)) k k i) := fun h i _ => by
                    rw [Hsn.out, rowM_skip (by rw [h]; simp)]
                  have Hput : Hid (cntR x k = true → ∀ f t : Nat, x.f = f → x.t = t → ∀ i, i < k → (if i = f then (rowM (l.take q) k k f).set t true else rowM (l.take q) k k i) = rowM (l.take (q + 1)) k k i) := fun h f t hf ht i _ => by
                    rw [Hsn.out]
                    by_cases e : i = f
                    · subst e
                      rw [if_pos rfl, rowM_set h hf ht]
                    · rw [if_neg e, rowM_skip (by rw [hf]; rintro ⟨_, h2⟩; omega)]
                  clear K hx Hsn
                  obtain ⟨xf, xt, xn, xs, xl, xc⟩ := x
                  dsimp only at *
                  obtain ⟨b1, q1⟩ : ∃ b, decide (0 ≤ xf) = b := ⟨_, rfl⟩
                  obtain ⟨b2, q2⟩ : ∃ b, decide (xf < k) = b := ⟨_, rfl⟩
                  obtain ⟨b3, q3⟩ : ∃ b, decide (0 ≤ xt) = b := ⟨_, rfl⟩
                  obtain ⟨b4, q4⟩ : ∃ b, decide (xt < k) = b := ⟨_, rfl⟩
                  have Hc := Lib.hid (show cntR ⟨xf, xt, xn, xs, xl, xc⟩ k = (b1 && (b2 && (b3 && b4))) from by unfold cntR; rw [q1, q2, q3, q4])
                  generalize cntR ⟨xf, xt, xn, xs, xl, xc⟩ k = r at *
                  by_cases hall : (b1 && (b2 && (b3 && b4))) = true
                  · have hrt : r = true := by rw [Hc.out, hall]
                    simp only [Bool.and_eq_true] at hall
                    obtain ⟨rfl, rfl, rfl, rfl⟩ := hall
                    have p1 := of_decide_eq_true q1
                    have p2 := of_decide_eq_true q2
                    have p3 := of_decide_eq_true q3
                    have p4 := of_decide_eq_true q4
                    obtain ⟨fn, rfl⟩ : ∃ m : Nat, xf = m := ⟨xf.toNat, by omega⟩
                    obtain ⟨tn, rfl⟩ : ∃ m : Nat, xt = m := ⟨xt.toNat, by omega⟩
                    have hfn : fn < k := by omega
                    have htn : tn < k := by omega
                    have cG := HR.out.cell hfn
                    rw [if_pos hfn] at cG
                    have cB := HR.out.rcell hfn (rowM_get htn)
                    have fB := HR.out.rfrozen hfn tn
                    have hB0 := (HR.out.rlt hfn).1
                    have Hs := Lib.hid (Hput.out hrt fn tn rfl rfl)
                    have HM := Lib.hid (HR.out.mark hfn (rowM_get (l := l.take q) (tp := k) (i := fn) htn) true)
                    clear Hput Hskip Hc hrt
                    go_upto_region 19 with fail
                    refine wp_region_still_tail 14 (by kernel_rfl) (by kernel_rfl) ?_
                    simp only [List.take_succ_cons, List.take_zero, List.drop_succ_cons, List.drop_zero]
                    repeat still_step
                    refine wpStill_nil ?_
                    go_wp2_with fail
                    go_roundw
                    case rel => exact ⟨q + 1, by go_num, by omega, (HM.out.congr Hs.out).old (Old.refl _).drew, ho.drew.setCell (p := ⟨B fn, tn, none⟩) hB0 _⟩
                    case measure => simp [intOf]; omega
                  · have hrf : r = false := by rw [Hc.out]; exact Bool.eq_false_iff.2 hall
                    have Hs := Lib.hid (Hskip.out hrf)
                    clear Hput Hskip Hc hrf
                    cases b1 <;> cases b2 <;> cases b3 <;> cases b4
                    all_goals first
                      | (exfalso; exact hall rfl)
                      | (clear hall
                         go_wp2_with fail
                         go_roundw
                         case rel => exact ⟨q + 1, by go_num, by omega, HR.out.congr Hs.out, ho⟩
                         case measure => simp [intOf]; omega)
                · obtain rfl : q = l.length := by omega
                  have hi : ¬ (l.length : Int) < l.length := by omega
                  have Hgr := Lib.hid (HR.out.grid (E := edge l k) (fun i _ => by rw [List.take_length]; rfl))
                  go_wp2_with fail
                  go_ret2
                  exact ⟨⟨_, by rw [He0.out]; rfl, fun _ => Hgr.out⟩, ho⟩
end Go.Proofs.Ytkaoipegbjmlnaa
