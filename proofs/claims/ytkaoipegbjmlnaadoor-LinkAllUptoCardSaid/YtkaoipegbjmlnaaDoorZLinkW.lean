/-
  LINK, W: how far each topic is from one: the search by a queue.
-/
import Derived.Test.YtkaoipegbjmlnaaDoorZLinkF
import Derived.Test.YtkaoipegbjmlnaaDoorZQueue
import Derived.Test.YtkaoipegbjmlnaaDoorZMapsT
import Derived.Deep.LoopGhost
namespace Go.Proofs.YtkaoipegbjmlnaaDoor
open Go.RowKit
attribute [local go_sem] Old.refl Old.alloc Old.drew Old.setCell OldW.old

/-- how many are marked -/
def cntM (F : Int → Option Nat) : Nat → Nat
  | 0 => 0
  | n + 1 => cntM F n + if (F n).isSome = true then 1 else 0
theorem cntM_le (F : Int → Option Nat) : ∀ n, cntM F n ≤ n
  | 0 => Nat.le_refl _
  | n + 1 => by
    have := cntM_le F n
    unfold cntM
    split <;> omega
theorem cntM_far {F : Int → Option Nat} {y : Int} {d : Nat} : ∀ {n : Nat}, (n : Int) ≤ y → cntM (fun x => if x = y then some d else F x) n = cntM F n
  | 0, _ => rfl
  | n + 1, h => by
    unfold cntM
    rw [cntM_far (n := n) (by omega), if_neg (show ¬ (n : Int) = y by omega)]
theorem cntM_mark {F : Int → Option Nat} {y : Int} {d : Nat} (h : F y = none) (h0 : 0 ≤ y) : ∀ {n : Nat}, y < n → cntM (fun x => if x = y then some d else F x) n = cntM F n + 1
  | 0, hn => by omega
  | n + 1, hn => by
    unfold cntM
    by_cases e : (n : Int) = y
    · rw [cntM_far (by omega), if_pos e, e, h]; rfl
    · rw [cntM_mark h h0 (n := n) (by omega), if_neg e]; omega
theorem cntM_pos {F : Int → Option Nat} {y : Int} (h : F y ≠ none) (h0 : 0 ≤ y) : ∀ {n : Nat}, y < n → 0 < cntM F n
  | 0, hn => by omega
  | n + 1, hn => by
    unfold cntM
    by_cases e : (n : Int) = y
    · rw [e, if_pos (Option.isSome_iff_ne_none.2 h)]; omega
    · have := cntM_pos h h0 (n := n) (by omega); omega
/-- what the search keeps, beside -/
structure Mk (n : Nat) (F : Int → Option Nat) : Prop where
  rng : ∀ x, F x ≠ none → 0 ≤ x ∧ x < n
  small : ∀ x d, F x = some d → d + 1 ≤ cntM F n
theorem Mk.start {n src : Nat} (h : src < n) : Mk n (fun x => if x = src then some 0 else none) := by
  refine ⟨fun x hx => ?_, fun x d hx => ?_⟩
  · try dsimp only at hx
    split at hx
    · omega
    · exact absurd rfl hx
  · try dsimp only at hx
    split at hx
    · obtain rfl := Option.some.inj hx
      exact cntM_pos (y := src) (by simp) (by omega) (by omega)
    · cases hx
theorem Mk.mark {n : Nat} {F : Int → Option Nat} (h : Mk n F) {t y : Int} {d : Nat} (ht : F t = some d) (hy : F y = none) (h0 : 0 ≤ y) (h1 : y < n) : Mk n (fun x => if x = y then some (d + 1) else F x) := by
  have hc : cntM (fun x => if x = y then some (d + 1) else F x) n = cntM F n + 1 := cntM_mark hy h0 h1
  refine ⟨fun x hx => ?_, fun x e hx => ?_⟩
  · try dsimp only at hx
    split at hx
    · omega
    · exact h.rng x hx
  · rw [hc]
    try dsimp only at hx
    split at hx
    · obtain rfl := Option.some.inj hx
      have := h.small t d ht
      omega
    · have := h.small x e hx
      omega
def distV : Option Nat → Int
  | none => -1
  | some d => d
def rowD (F : Int → Option Nat) (n k : Nat) : List Int := (List.range n).map fun i : Nat => if i < k then distV (F i) else 0
def distL (F : Int → Option Nat) (n : Nat) : List Int := (List.range n).map fun i : Nat => distV (F i)
theorem rowD_len (F : Int → Option Nat) (n k : Nat) : (rowD F n k).length = n := by simp [rowD]
theorem rowD_zero (F : Int → Option Nat) (n : Nat) : rowD F n 0 = List.replicate n 0 := by
  unfold rowD
  refine List.ext_getElem? fun j => ?_
  rw [List.getElem?_map, List.getElem?_replicate]
  by_cases h : j < n
  · rw [List.getElem?_range h, if_pos h]; rfl
  · rw [List.getElem?_eq_none (by simp; omega), if_neg h]; rfl
theorem rowD_set (F : Int → Option Nat) (n k : Nat) : (rowD F n k).set k (distV (F k)) = rowD F n (k + 1) := by
  unfold rowD
  rw [range_set]
  refine List.map_congr_left fun j _ => ?_
  by_cases e : j = k
  · subst e
    rw [if_pos rfl, if_pos (Nat.lt_succ_self j)]
  · rw [if_neg e]
    by_cases e2 : j < k
    · rw [if_pos e2, if_pos (by omega)]
    · rw [if_neg e2, if_neg (by omega)]
theorem rowD_full (F : Int → Option Nat) (n : Nat) : rowD F n n = distL F n := by
  unfold rowD distL
  exact List.map_congr_left fun j hj => by rw [if_pos (List.mem_range.1 hj)]
/-- the rows of a graph, read -/
def Lists (w : World) (G n : Nat) (V : Nat → SlV) (E : Int → Int → Bool) : Prop := ∀ i, i < n → (∀ W, Old w W → W.cell? ⟨G, i, none⟩ = some (slv (V i))) ∧ Ints w (slv (V i)) (below n (E i))
theorem Lists.old {w W : World} {G n : Nat} {V : Nat → SlV} {E : Int → Int → Bool} (h : Lists w G n V E) (o : Old w W) : Lists W G n V E := fun i hi => ⟨fun V' o' => (h i hi).1 V' (o.trans o'), (h i hi).2.old o⟩
theorem Rows.lists {w0 w : World} {G n : Nat} {V : Nat → SlV} {E : Int → Int → Bool} (h : Rows w0 w G n V (fun i => below n (E i))) : Lists w G n V E := fun i hi => ⟨fun _ o => o.cell (h.cell hi), (h.rows i hi).ints⟩
theorem zeroI : ∀ w : World, (zeroValue 3).run Tryd.prog w = .ok (.int .i64 0) w := fun _ => by kernel_rfl
set_option maxRecDepth 100000 in
set_option maxHeartbeats 1600000 in
theorem walk_any (G n src : Nat) (V : Nat → SlV) (E : Int → Int → Bool) (w : World) (hl : Lists w G n V E) (hE : ∀ a b, E a b = true → 0 ≤ b ∧ b < n) (hs : src < n) (hn : n ≤ 1000) :
    Calls Tryd.prog 29 #[.slice (some ⟨G, 0, none⟩) n n, .int .i64 src] w fun e w' => (∃ v, e = .returned v ∧ ∃ D : Int → Option Nat, OwnI 3 w w' v (distL D n) ∧ (∀ x d, D x = some d ↔ DistIs E src x d) ∧ ∀ x d, D x = some d → d < n) ∧ Old w w' := by
  have Hl := Lib.hid hl
  have HE := Lib.hid hE
  have Hs := Lib.hid hs
  clear hl hE
  have hmm := @run_makeMap Tryd.prog
  go_enter Tryd.func29, Tryd.ntmps29
  go_wp2_with (refine wpList_insert_mio (w0 := w) rfl _ _ _ _ rfl _ _ Tryd.underlying3 Tryd.underlying109 Tryd.underlying3 w.heap.size 0 _ rfl (MapIO.made _ _ _ _) (by omega) (src : Int) 0 rfl ⟨by omega, by omega⟩ rfl ⟨by decide, by decide⟩ ((Old.refl w).alloc _) (Nat.le_refl _) ?_; intro w2 hM ho2 hg2; have hs2 := ho2.size)
  clear hmm
  have hlt2 : w.heap.size < w2.heap.size := hM.lt
  have hnb : (Value.slice (some ⟨w2.heap.size, 0, none⟩) 1 1).ownBlock ≠ some w.heap.size := fun e => by
    have := Option.some.inj e
    dsimp only at this
    omega
  have hc0 : cntM (fun x : Int => if x = src then some 0 else none) n = 1 := by
    have h1 := cntM_mark (F := fun _ => none) (d := 0) (y := (src : Int)) rfl (by omega) (n := n) (by omega)
    have h2 : ∀ k, cntM (fun _ => none) k = 0 := fun k => by
      induction k with
      | zero => rfl
      | succ k ih => unfold cntM; rw [ih]; rfl
    rw [h1, h2]
  have HM := Lib.hid hM
  have Hc := Lib.hid hc0
  have Hnb := Lib.hid hnb
  clear hM hc0 hnb
  go_loopg [6] (2 * n + 2) (fun c x wr => ∃ (F : Int → Option Nat) (q : List Int), OwnQ 3 w wr x q ∧ x.ownBlock ≠ some w.heap.size ∧ Bfs E src F q ∧ Mk n F ∧ MapIO Tryd.prog 3 3 wr w.heap.size (cntM F n) F ∧ 2 * (n - cntM F n) + q.length ≤ c ∧ q.length ≤ cntM F n ∧ Old w wr)
  case atStart =>
    exact ⟨_, [(src : Int)], OwnQ.one _ ho2.size, Hnb.out, Bfs.init E src, Mk.start Hs.out, by rw [Hc.out]; exact HM.out.old ((Old.refl w2).alloc _), by rw [Hc.out]; simp; omega, by rw [Hc.out]; exact Nat.le_refl 1, ho2.alloc _⟩
  case round =>
    obtain ⟨F, q, hQ, hqb, hB, hK, hM, hc, hql, ho⟩ := hrel
    have HB := Lib.hid hB
    have HK := Lib.hid hK
    have HM := Lib.hid hM
    clear hB hK hM
    cases q with
    | nil =>
      obtain ⟨g, off, cap, rfl, _, _, _, _⟩ := hQ.form
      rw [List.length_nil]
      have HD := Lib.hid HB.out.says
      have HDs : Hid (∀ x d, F x = some d → d < n) := fun x d h => by
        have h1 := HK.out.small x d h
        have h2 := cntM_le F n
        omega
      have hbl := HM.out.lt
      clear hc hql
      go_wp2_with (at_make; refine wpList_make_ints (w0 := w) rfl _ _ 59 rfl 3 Tryd.underlying59 infoInt n rfl rfl (by omega) ho ?_; intro w5 hown ho5 hs5)
      have HM5 := Lib.hid (HM.out.old (by assumption : Old wr w5))
      have ho6 : Old w w5 := ho.trans (by assumption)
      generalize hG2 : wr.heap.size = G2 at *
      have hwG : w.heap.size ≤ G2 := by rw [← hG2]; exact ho.size
      clear hG2
      go_loopw [62] (fun j wx => ∃ k : Nat, j = .int .i64 k ∧ k ≤ n ∧ OwnI 3 w wx (.slice (some ⟨G2, 0, none⟩) n n) (rowD F n k) ∧ MapIO Tryd.prog 3 3 wx w.heap.size (cntM F n) F ∧ Old w wx) (fun j _ => n - (intOf j).toNat)
      case atStart => exact ⟨0, rfl, Nat.zero_le _, by rw [rowD_zero]; exact hown, HM5.out, ho6⟩
      case round =>
        clear hown HM5 HM ho5 hs5 ho6 ho
        obtain ⟨k, rfl, hk, hS, hM, ho⟩ := hrel
        have HS := Lib.hid hS
        have HM := Lib.hid hM
        clear hS hM
        by_cases hlt : k < n
        · have hi : (k : Int) < n := by omega
          have c2 := HS.out.cell (k := k) (by rw [rowD_len]; exact hlt)
          have f2 := HS.out.frozen k
          have HS1 := Lib.hid (HS.out.stored k (-1))
          have HM1 := Lib.hid (HM.out.kept (grown_set wr G2 k (.int .i64 (-1))) (fun e => by have := Option.some.inj e; omega))
          have o1 : Old w (wr.setCell ⟨G2, k, none⟩ (.int .i64 (-1))) := ho.setCell (p := ⟨G2, k, none⟩) hwG _
          have Hset := Lib.hid (rowD_set F n k)
          cases hF : F k with
          | none =>
            have HF := Lib.hid hF
            rw [hF] at Hset
            clear hF
            go_wp2_with (refine wpList_lookup_mio_ok rfl _ _ _ rfl _ _ Tryd.underlying3 Tryd.underlying109 Tryd.underlying3 zeroI w.heap.size _ F rfl HM1.out k rfl ⟨by omega, by omega⟩ none HF.out ?_)
            go_roundw
            case rel => exact ⟨k + 1, by go_num, by omega, by rw [← Hset.out]; exact HS1.out, HM1.out, o1⟩
            case measure => simp [intOf]; omega
          | some d =>
            have HF := Lib.hid hF
            rw [hF] at Hset
            clear hF
            have c3 := HS1.out.cell (k := k) (by rw [List.length_set, rowD_len]; exact hlt)
            have f3 := HS1.out.frozen k
            have HS2 := Lib.hid (HS1.out.stored k d)
            rw [List.set_set] at HS2
            have HM2 := Lib.hid (HM1.out.kept (grown_set _ G2 k (.int .i64 d)) (fun e => by have := Option.some.inj e; omega))
            have o2 := o1.setCell (p := ⟨G2, k, none⟩) hwG (.int .i64 d)
            go_wp2_with (refine wpList_lookup_mio_ok rfl _ _ _ rfl _ _ Tryd.underlying3 Tryd.underlying109 Tryd.underlying3 zeroI w.heap.size _ F rfl HM1.out k rfl ⟨by omega, by omega⟩ (some d) HF.out ?_)
            go_roundw
            case rel => exact ⟨k + 1, by go_num, by omega, by rw [← Hset.out]; exact HS2.out, HM2.out, o2⟩
            case measure => simp [intOf]; omega
        · obtain rfl : k = n := by omega
          have hi : ¬ (k : Int) < k := by omega
          go_wp2_with fail
          go_ret
          exact ⟨⟨_, rfl, F, by rw [← rowD_full]; exact HS.out, HD.out, HDs.out⟩, ho⟩
    | cons t q =>
      obtain ⟨g, off, cap, rfl, hg1, hg2, hcap, hcap2⟩ := hQ.form
      have HQ := Lib.hid hQ
      have c0 := hQ.cell (i := 0) (by simp)
      rw [show ix (t :: q) 0 = t from rfl, Nat.add_zero] at c0
      obtain ⟨m, hm⟩ : ∃ m, (t :: q).length = m := ⟨_, rfl⟩
      rw [hm] at HQ hcap hc
      rw [hm]
      rw [List.length_cons] at hm
      rw [List.length_cons] at hql
      have hm0 : (0 : Int) < m := by omega
      have hm1 : (1 : Int) ≤ m := by omega
      have hm2 : (m : Int) ≤ cap := by omega
      have hcp : (1 : Int) ≤ cap := by omega
      obtain ⟨d, hd⟩ : ∃ d, F t = some d := Option.ne_none_iff_exists'.1 (HB.out.inq t (by simp))
      obtain ⟨ht0, ht1⟩ := HK.out.rng t (by rw [hd]; simp)
      obtain ⟨tn, rfl⟩ : ∃ tn : Nat, t = tn := ⟨t.toNat, by omega⟩
      have htn : tn < n := by omega
      have cG := (Hl.out tn htn).1 wr ho
      have hI := (Hl.out tn htn).2
      obtain ⟨⟨ai, ni, ci⟩, hvi⟩ : ∃ x, V tn = x := ⟨_, rfl⟩
      rw [hvi] at cG hI
      obtain ⟨a', cap', b', off', e', hc1', hc2', ha', ht'⟩ := hI
      injection e' with e1 e2 e3
      subst e1; subst e2; subst e3
      have Ha := Lib.hid ha'
      have Ht := Lib.hid ht'
      have Hm := Lib.hid hm
      have Hd := Lib.hid hd
      have Hc := Lib.hid hc
      have hqb2 : g ≠ w.heap.size := fun e => hqb (by rw [e]; rfl)
      clear hvi ha' ht' hm hd hc hQ hqb
      unfold slv at cG
      have Hsm := Lib.hid (HK.out.small tn d Hd.out)
      have Hcn := Lib.hid (cntM_le F n)
      have hrow1 : Hid (∀ i, i < (below n (E tn)).length → E tn (ix (below n (E tn)) i) = true ∧ 0 ≤ ix (below n (E tn)) i ∧ ix (below n (E tn)) i < n) := fun i hi => by
        have hm : ix (below n (E tn)) i ∈ below n (E tn) := by
          unfold ix
          rw [List.getD_eq_getElem?_getD, List.getElem?_eq_getElem hi]
          exact List.getElem_mem hi
        obtain ⟨k1, k2, k3⟩ := below_mem.1 hm
        exact ⟨k3, k1, k2⟩
      have hrow2 : Hid (∀ y, E tn y = true → ∃ i, i < (below n (E tn)).length ∧ ix (below n (E tn)) i = y) := fun y hy => by
        obtain ⟨k1, k2⟩ := HE.out tn y hy
        obtain ⟨i, hi, e⟩ := List.mem_iff_getElem.1 (below_mem.2 ⟨k1, k2, hy⟩)
        refine ⟨i, hi, ?_⟩
        unfold ix
        rw [List.getD_eq_getElem?_getD, List.getElem?_eq_getElem hi]
        exact e
      generalize below n (E tn) = row at *
      go_upto_region 5 with fail
      go_cut [6] (fun x wx => OwnQ 3 w wr x q ∧ x.ownBlock ≠ some w.heap.size ∧ wr = wx)
      case first =>
        go_wp2_with fail
        · have hcap1 : cap = 1 := by assumption
          rw [hcap1] at HQ hcap
          obtain ⟨hq, hq0⟩ := HQ.out.last
          go_meet
          have hm10 : m - 1 = 0 := by omega
          refine ⟨?_, fun e => hqb2 (Option.some.inj e), rfl⟩
          rw [hq]
          simpa [hm10] using hq0
        · go_meet
          refine ⟨?_, fun e => hqb2 (Option.some.inj e), rfl⟩
          have h := HQ.out.tail
          have hml : q.length = m - 1 := by have := Hm.out; omega
          rw [hml] at h
          simpa using h
      case rest =>
        obtain ⟨hQ2, hqb3, rfl⟩ := hcut
        have HQ2 := Lib.hid hQ2
        have Hq3 := Lib.hid hqb3
        clear hQ2 hqb3
        go_wp2_with fail
        go_loopw [6, 34] (fun x j wx => ∃ (F : Int → Option Nat) (q : List Int) (k : Nat), j = .int .i64 k ∧ k ≤ row.length ∧ F tn = some d ∧ OwnQ 3 w wx x q ∧ x.ownBlock ≠ some w.heap.size ∧ Bfs E src F (tn :: q) ∧ Mk n F ∧ MapIO Tryd.prog 3 3 wx w.heap.size (cntM F n) F ∧ 2 * (n - cntM F n) + q.length + 1 ≤ gk ∧ q.length + 1 ≤ cntM F n ∧ (∀ i, i < k → F (ix row i) ≠ none) ∧ Old w wx) (fun _ j _ => row.length - (intOf j).toNat)
        case atStart => exact ⟨F, q, 0, rfl, Nat.zero_le _, Hd.out, HQ2.out, Hq3.out, HB.out, HK.out, HM.out, by have h1 := Hc.out; have h2 := Hm.out; omega, hql, fun i hi => absurd hi (Nat.not_lt_zero i), ho⟩
        case round =>
          clear HQ2 Hq3 HQ HB HK HM Hc Hm Hd Hsm Hcn c0 hm0 hm1 hm2 hcp hqb2 hg1 hg2 hcap hcap2
          obtain ⟨F, q, k, rfl, hk, hd, hQ, hqb, hB, hK, hM, hc, hql, hall, ho⟩ := hrel
          obtain ⟨g, off, cap, rfl, hg1, hg2, hcap, hcap2⟩ := hQ.form
          have HQ := Lib.hid hQ
          have Hqb := Lib.hid hqb
          have HB := Lib.hid hB
          have HK := Lib.hid hK
          have HM := Lib.hid hM
          have Hd := Lib.hid hd
          have Hc := Lib.hid hc
          have Hall := Lib.hid hall
          have hsm := HK.out.small tn d hd
          have hcn := cntM_le F n
          clear hQ hqb hB hK hM hd hc hall
          by_cases hlt : k < row.length
          · have hi : (k : Int) < row.length := by omega
            obtain rfl := Ha.out (by omega)
            have ck := Ht.out k hlt _ ho
            obtain ⟨hE1, hy0, hy1⟩ := hrow1.out k hlt
            have HE1 := Lib.hid hE1
            have Hnx : Hid (∀ F' : Int → Option Nat, F' (ix row k) ≠ none → (∀ i, i < k → F' (ix row i) ≠ none) → ∀ i, i < k + 1 → F' (ix row i) ≠ none) := fun F' h1 h2 i hi => by
              rcases Nat.lt_or_ge i k with h | h
              · exact h2 i h
              · obtain rfl : i = k := by omega
                exact h1
            have Hsame : Hid (∀ i, ix row i = ix row k ∨ ix row i ≠ ix row k) := fun i => Classical.em _
            generalize ix row k = y at *
            clear hE1
            cases hF : F y with
            | some e =>
              have HF := Lib.hid hF
              clear hF
              go_wp2_with (refine wpList_lookup_mio_ok rfl _ _ _ rfl _ _ Tryd.underlying3 Tryd.underlying109 Tryd.underlying3 zeroI w.heap.size _ F rfl HM.out y rfl ⟨by omega, by omega⟩ (some e) HF.out ?_)
              go_roundw
              case rel => exact ⟨F, q, k + 1, by go_num, by omega, Hd.out, HQ.out, Hqb.out, HB.out, HK.out, HM.out, Hc.out, hql, Hnx.out F (by rw [HF.out]; simp) Hall.out, ho⟩
              case measure => simp [intOf]; omega
            | none =>
              have HF := Lib.hid hF
              clear hF
              have hgb : (Value.slice (some ⟨g, off, none⟩) q.length cap).ownBlock ≠ some w.heap.size := Hqb.out
              go_wp2_with (first
                | (refine wpList_lookup_mio_ok rfl _ _ _ rfl _ _ Tryd.underlying3 Tryd.underlying109 Tryd.underlying3 zeroI w.heap.size _ F rfl HM.out y rfl ⟨by omega, by omega⟩ none HF.out ?_)
                | (refine wpList_lookup_mio rfl _ _ _ rfl _ _ Tryd.underlying3 Tryd.underlying109 Tryd.underlying3 zeroI w.heap.size _ F rfl HM.out tn rfl ⟨by omega, by omega⟩ (some d) Hd.out ?_; rw [show optN (some d) = (d : Int) from rfl])
                | (refine wpList_update_mio (w0 := w) rfl _ _ _ _ rfl _ _ Tryd.underlying3 Tryd.underlying109 Tryd.underlying3 w.heap.size _ F rfl HM.out (by omega) y (d + 1) rfl ⟨by omega, by omega⟩ rfl ⟨by omega, by omega⟩ ho (Nat.le_refl _) ?_; intro w3 hM3 ho3 hg3; have HQ3 := Lib.hid (HQ.out.kept hg3 hgb); have hs3 := ho3.size)
                | (at_builtin; refine wpList_append_q (w0 := w) rfl _ _ _ rfl _ Tryd.underlying59 infoInt _ q rfl (HQ3.out.old ((Old.refl w3).alloc _)) _ y rfl (by simp [go_sem]) (by omega) (by simp; omega) ?_; intro v4 w4 hQ4 hg4 hat4))
              have hcm : cntM (fun x => if x = y then some (d + 1) else F x) n = cntM F n + 1 := cntM_mark HF.out hy0 hy1
              have hcn4 : cntM F n + 1 ≤ n := by rw [← hcm]; exact cntM_le _ _
              have hM4 := (hM3.old ((Old.refl w3).alloc _)).kept hg4 (fun e => hgb e.symm)
              have hold4 : Old w w4 := (ho3.alloc _).grown hg4 (fun b hb => by have := Option.some.inj hb; dsimp only at this; omega)
              have hb3 := hM3.lt
              have hne4 : v4.ownBlock ≠ some w.heap.size := by
                rcases hat4 with e | ⟨g4, e, hg4l⟩
                · rw [e]; exact hgb
                · rw [e]
                  intro e2
                  have := Option.some.inj e2
                  simp at hg4l
                  omega
              have Hcm := Lib.hid hcm
              have hB4 := Lib.hid (HB.out.mark Hd.out HE1.out HF.out)
              have hK4 := Lib.hid (HK.out.mark Hd.out HF.out hy0 hy1)
              have hne : ¬ ((tn : Int) = y) := fun e => by rw [← e, Hd.out] at HF; cases HF.out
              have Hd4 : Hid ((if (tn : Int) = y then some (d + 1) else F tn) = some d) := by
                show _ = _
                rw [if_neg hne]; exact Hd.out
              have Hall4 : Hid (∀ i, i < k → (if ix row i = y then some (d + 1) else F (ix row i)) ≠ none) := fun i hi => by
                split
                · simp
                · exact Hall.out i hi
              have Hy4 : Hid ((if y = y then some (d + 1) else F y) ≠ none) := by
                show _ ≠ _
                rw [if_pos rfl]; simp
              have HM4 := Lib.hid hM4
              have Hc4 := Hc.out
              clear hcm hM4 hM3 hne hat4
              go_roundw
              case rel => exact ⟨fun x => if x = y then some (d + 1) else F x, q ++ [y], k + 1, by go_num, by omega, Hd4.out, hQ4, hne4, hB4.out, hK4.out, by rw [Hcm.out]; exact HM4.out, by rw [Hcm.out, List.length_append, List.length_singleton]; omega, by rw [Hcm.out, List.length_append, List.length_singleton]; omega, Hnx.out (fun x => if x = y then some (d + 1) else F x) Hy4.out Hall4.out, hold4⟩
              case measure => simp [intOf]; omega
          · obtain rfl : k = row.length := by omega
            have hi : ¬ (row.length : Int) < row.length := by omega
            have hB4 := Lib.hid (HB.out.pop (fun y hy => by
              obtain ⟨i, hi, e⟩ := hrow2.out y hy
              rw [← e]; exact Hall.out i hi))
            have Hc4 := Hc.out
            go_wp2_with fail
            go_roundg (gk - 1)
            case measure => omega
            case rel => exact ⟨F, q, HQ.out, Hqb.out, hB4.out, HK.out, HM.out, by omega, by omega, ho⟩
end Go.Proofs.YtkaoipegbjmlnaaDoor
