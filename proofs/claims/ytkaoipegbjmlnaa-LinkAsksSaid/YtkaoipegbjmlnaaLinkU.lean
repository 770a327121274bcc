/-
  LINK, THE DOCUMENT's, U: what can be reached, by marking till nothing more is marked.
-/
import Derived.Test.YtkaoipegbjmlnaaLinkT
import Derived.Test.YtkaoipegbjmlnaaLinkJ
namespace Go.Proofs.Ytkaoipegbjmlnaa
open Go.RowKit
attribute [local go_sem] Old.refl Old.alloc Old.drew Old.setCell OldW.old

open Classical in
noncomputable def reachL (E : Int → Int → Bool) (n : Nat) (s : Int) : List Int := below n fun y => decide (∃ m, Walk E m s y)
/-- what is marked so far -/
structure RS (E : Int → Int → Bool) (n s : Nat) (S : List Bool) : Prop where
  len : S.length = n
  self : S[s]? = some true
  sound : ∀ i : Nat, S[i]? = some true → ∃ m, Walk E m s i
def rowDone (E : Int → Int → Bool) (S : List Bool) (i k : Nat) : Prop := S[i]? = some true → ∀ y : Nat, y < k → E i y = true → S[y]? = some true
section
variable {E : Int → Int → Bool} {n s : Nat} {S : List Bool}
theorem RS.mark (h : RS E n s S) {i k : Nat} (hi : S[i]? = some true) (e : E i k = true) (hk : k < n) : RS E n s (S.set k true) := by
  refine ⟨by rw [List.length_set]; exact h.len, ?_, fun j hj => ?_⟩
  · rw [List.getElem?_set]
    split
    · rw [if_pos (by rw [h.len]; omega)]
    · exact h.self
  · rw [List.getElem?_set] at hj
    split at hj
    · rename_i ek
      subst ek
      obtain ⟨m, hm⟩ := h.sound i hi
      exact ⟨m + 1, hm.snoc e⟩
    · exact h.sound j hj
theorem RS.start (hs : s < n) : RS E n s ((List.replicate n false).set s true) := by
  refine ⟨by simp, by rw [List.getElem?_set_self (by simpa using hs)], fun j hj => ?_⟩
  rw [List.getElem?_set] at hj
  split at hj
  · rename_i e; subst e; exact ⟨0, Walk.nil _⟩
  · rw [List.getElem?_replicate] at hj
    split at hj <;> simp at hj
theorem RS.get (h : RS E n s S) {i : Nat} (hi : i < n) : ∃ b, S[i]? = some b := ⟨_, List.getElem?_eq_getElem (by rw [h.len]; exact hi)⟩
theorem cnt_set {k : Nat} (h : S[k]? = some false) : (S.set k true).count true = S.count true + 1 := by
  obtain ⟨hk, e⟩ := List.getElem?_eq_some_iff.1 h
  rw [List.count_set hk, e]
  simp
theorem RS.done (h : RS E n s S) (hE : ∀ a b, E a b = true → (0 ≤ a ∧ a < n) ∧ 0 ≤ b ∧ b < n) (hc : ∀ i, i < n → rowDone E S i n) (i : Nat) : S[i]? = some true ↔ ∃ m, Walk E m s i := by
  refine ⟨h.sound i, fun ⟨m, hm⟩ => ?_⟩
  have key : ∀ (m : Nat) (y : Int), Walk E m s y → ∃ j : Nat, y = j ∧ S[j]? = some true := by
    intro m
    induction m with
    | zero => intro y hy; cases hy; exact ⟨s, rfl, h.self⟩
    | succ m ih =>
      intro y hy
      cases hy with
      | snoc hw e =>
        obtain ⟨j, rfl, hj⟩ := ih _ hw
        obtain ⟨h1, h2⟩ := hE _ _ e
        obtain ⟨q, rfl⟩ : ∃ q : Nat, y = q := ⟨y.toNat, by omega⟩
        exact ⟨q, rfl, hc j (by omega) hj q (by omega) e⟩
  obtain ⟨j, e, hj⟩ := key m i hm
  obtain rfl : i = j := by omega
  exact hj
end
theorem reach_snoc {E : Int → Int → Bool} {k : Nat} {s : Int} {b : Bool} (h : b = true ↔ ∃ m, Walk E m s k) : reachL E (k + 1) s = reachL E k s ++ if b = true then [(k : Int)] else [] := by
  classical
  unfold reachL
  rw [below_snoc]
  congr 1
  by_cases hb : b = true
  · rw [if_pos hb, if_pos (decide_eq_true (h.1 hb))]
  · rw [if_neg hb, if_neg (fun e => hb (h.2 (of_decide_eq_true e)))]
theorem reach_len (E : Int → Int → Bool) (k : Nat) (s : Int) : (reachL E k s).length ≤ k := below_len _ _
set_option maxRecDepth 100000 in
set_option maxHeartbeats 1600000 in
theorem RReach_any (v : Value) (l : List Rfr) (tp t : Int) (w : World) (hl : Recs rfE w v l) :
    Calls Try.prog 18 #[v, .int .i64 tp, .int .i64 t] w fun e w' => RetL w w' (asksE l.length tp [t]) (reachL (edge l tp) tp.toNat t) e ∧ Old w w' := by
  have Hl := Lib.hid hl
  obtain ⟨a, cap, rfl, hc1, hc2⟩ := hl.form
  clear hl
  have o0 : Old w (w.alloc (.cells #[.int .i64 t] 3)) := (Old.refl w).alloc _
  have HG := Lib.hid (grid_any (.slice a l.length cap) (.slice (some ⟨w.heap.size, 0, none⟩) 1 1) l tp [t] (w.alloc (.cells #[.int .i64 t] 3)) (Hl.out.old o0) (Ints.one w 3 t))
  by_cases hE : asksE l.length tp [t] = 0
  · obtain ⟨hn, ht0, ht1, hs⟩ := asks_ok hE
    obtain ⟨n, rfl⟩ : ∃ n : Nat, tp = n := ⟨tp.toNat, by omega⟩
    obtain ⟨hs0, hs1⟩ := hs t (by simp)
    obtain ⟨tn, rfl⟩ : ∃ tn : Nat, t = tn := ⟨t.toNat, by omega⟩
    have htn : tn < n := by omega
    have HEr : Hid (∀ a b, edge l n a b = true → (0 ≤ a ∧ a < n) ∧ 0 ≤ b ∧ b < n) := fun a b h => edge_rng h
    rw [hE] at HG ⊢
    rw [show (n : Int).toNat = n from rfl]
    clear hE hs
    generalize edge l n = E at *
    go_enter Try.func18, Try.ntmps18
    go_wp2_with fail
    refine HG.out.mono ?_
    rintro e w2 ⟨⟨u, rfl, hu⟩, o2⟩
    obtain ⟨G, rfl, hg⟩ := (hu rfl).at'
    have Hg := Lib.hid hg
    have o3 := o0.trans o2
    have hsz := o3.size
    clear hu hg HG o0 o2
    go_wp2_with (at_make; refine wpList_make_enc (c := boolE) (w0 := w2) rfl _ _ 54 rfl 4 Try.underlying54 _ infoBool rfl rfl false rfl n rfl rfl (by omega) (by omega) (Old.refl w2) ?_; intro w5 hown5 ho5 hs5; have c5 : w5.cell? ⟨w2.heap.size, tn, none⟩ = some (.bool false) := (by have h := hown5.cell (i := tn) (j := 0) (x := false) (u := .bool false) (by rw [List.getElem?_replicate, if_pos htn]) rfl; simpa [boolE] using h); have f5 := hown5.frozen tn)
    have hst : OwnS boolE 4 w2 (w5.setCell ⟨w2.heap.size, tn, none⟩ (.bool true)) (.slice (some ⟨w2.heap.size, 0, none⟩) n n) ((List.replicate n false).set tn true) := by
      have h := hown5.stored (i := tn) (j := 0) (x := false) (x' := true) (u := .bool true) (by rw [List.getElem?_replicate, if_pos htn]) (by decide) rfl
      simpa [boolE] using h
    have ost : Old w2 (w5.setCell ⟨w2.heap.size, tn, none⟩ (.bool true)) := ho5.setCell (p := ⟨w2.heap.size, tn, none⟩) (Nat.le_refl _) _
    generalize w5.setCell ⟨w2.heap.size, tn, none⟩ (.bool true) = w6 at *
    generalize hG2 : w2.heap.size = G2 at *
    have hGw : w2.heap.size ≤ G2 := by omega
    have Hst := Lib.hid hst
    clear hG2 hst hown5 ho5 hs5 c5 f5
    go_loopg [12] (2 * n + 2) (fun c x wr => ∃ (S : List Bool) (b : Bool), x = .bool b ∧ OwnS boolE 4 w2 wr (.slice (some ⟨G2, 0, none⟩) n n) S ∧ RS E n tn S ∧ (b = false → ∀ i, i < n → rowDone E S i n) ∧ 2 * (n - S.count true) + b.toNat ≤ c ∧ Old w2 wr)
    case atStart => exact ⟨_, true, rfl, Hst.out, RS.start htn, fun h => (by cases h), by simp; omega, ost⟩
    case round =>
      clear Hst ost
      obtain ⟨S, b, rfl, hS, hRS, hdone, hgk, ho⟩ := hrel
      have HS := Lib.hid hS
      have HRS := Lib.hid hRS
      have Hdone := Lib.hid hdone
      have Hgk := Lib.hid hgk
      clear hS hRS hdone hgk
      cases b with
      | false =>
        have Hin : Hid (∀ i : Nat, i < n → ∀ b, S[i]? = some b → (b = true ↔ ∃ m, Walk E m tn i)) := fun i hi b hb => by
          rw [← HRS.out.done HEr.out (Hdone.out rfl) i, hb]; simp
        have hsz2 := (o3.trans ho).size
        clear Hdone Hgk
        go_wp2_with fail
        generalize wr = w7 at *
        go_loopw [10, 15] (fun x j wx => ∃ k : Nat, j = .int .i64 k ∧ k ≤ n ∧ OwnI 3 w7 wx x (reachL E k tn) ∧ Old w7 wx) (fun _ j _ => n - (intOf j).toNat)
        case atStart => exact ⟨0, rfl, Nat.zero_le _, OwnI.nil _ _ _, Old.refl _⟩
        case round =>
          obtain ⟨k, rfl, hk, hown, hw⟩ := hrel
          have Hown := Lib.hid hown
          have hlb := reach_len E k tn
          clear hown
          by_cases hlt : k < n
          · have hi2 : (k : Int) < n := by omega
            obtain ⟨sk, hsk⟩ := HRS.out.get hlt
            have ck : wr.cell? ⟨G2, k, none⟩ = some (.bool sk) := by
              have h := (HS.out.old hw).cell (i := k) (j := 0) (x := sk) (u := .bool sk) hsk rfl
              simpa [boolE] using h
            have Hsn := Lib.hid (reach_snoc (Hin.out k hlt sk hsk))
            clear hsk
            generalize reachL E k tn = raw at *
            cases sk with
            | true =>
              rw [if_pos rfl] at Hsn
              go_wp2_with (at_builtin; refine wpList_append_ints (w0 := w7) rfl _ _ 23 rfl 3 Try.underlying23 infoInt _ raw [(k : Int)] rfl (Hown.out.alloc _) _ rfl (Ints.one _ _ (k : Int)) (by simp; omega) (hw.alloc _) ?_; intro v5 w5 hown5 ho5 _)
              go_roundw
              case rel => exact ⟨k + 1, by go_num, by omega, by rw [Hsn.out]; exact hown5, ho5⟩
              case measure => simp [intOf]; omega
            | false =>
              rw [if_neg Bool.false_ne_true, List.append_nil] at Hsn
              go_wp2_with fail
              go_roundw
              case rel => exact ⟨k + 1, by go_num, by omega, by rw [Hsn.out]; exact Hown.out, hw⟩
              case measure => simp [intOf]; omega
          · obtain rfl : k = n := by omega
            have hi2 : ¬ (k : Int) < k := by omega
            go_wp2_with fail
            go_ret2
            exact ⟨⟨_, rfl, by rw [if_pos rfl]; exact Hown.out.lower hsz2⟩, (o3.trans ho).trans hw⟩
      | true =>
        go_wp2_with fail
        generalize hc0 : S.count true = c0 at *
        go_loopw [12, 13] (fun x j wx => ∃ (i : Nat) (S : List Bool) (b : Bool), j = .int .i64 i ∧ i ≤ n ∧ x = .bool b ∧ OwnS boolE 4 w2 wx (.slice (some ⟨G2, 0, none⟩) n n) S ∧ RS E n tn S ∧ (b = false → ∀ q, q < i → rowDone E S q n) ∧ c0 + b.toNat ≤ S.count true ∧ Old w2 wx) (fun _ j _ => n - (intOf j).toNat)
        case atStart => exact ⟨0, S, false, rfl, Nat.zero_le _, rfl, HS.out, HRS.out, fun _ q hq => absurd hq (Nat.not_lt_zero q), by rw [hc0]; simp, ho⟩
        case round =>
          clear HS HRS ho
          obtain ⟨i, S, b, rfl, hi, rfl, hS, hRS, hdone, hcnt, ho⟩ := hrel
          have HS := Lib.hid hS
          have HRS := Lib.hid hRS
          have Hdone := Lib.hid hdone
          have Hcnt := Lib.hid hcnt
          clear hS hRS hdone hcnt
          by_cases hlt : i < n
          · have hi2 : (i : Int) < n := by omega
            go_wp2_with fail
            go_loopw [12, 14] (fun x j wx => ∃ (k : Nat) (S : List Bool) (b : Bool), j = .int .i64 k ∧ k ≤ n ∧ x = .bool b ∧ OwnS boolE 4 w2 wx (.slice (some ⟨G2, 0, none⟩) n n) S ∧ RS E n tn S ∧ (b = false → (∀ q, q < i → rowDone E S q n) ∧ rowDone E S i k) ∧ c0 + b.toNat ≤ S.count true ∧ Old w2 wx) (fun _ j _ => n - (intOf j).toNat)
            case atStart => exact ⟨0, S, b, rfl, Nat.zero_le _, rfl, HS.out, HRS.out, fun h => ⟨Hdone.out h, fun _ y hy => absurd hy (Nat.not_lt_zero y)⟩, Hcnt.out, ho⟩
            case round =>
              clear HS HRS ho Hdone Hcnt
              obtain ⟨k, S, b, rfl, hk, rfl, hS, hRS, hdone, hcnt, ho⟩ := hrel
              have HS := Lib.hid hS
              have HRS := Lib.hid hRS
              have Hdone := Lib.hid hdone
              have Hcnt := Lib.hid hcnt
              clear hS hRS hdone hcnt
              obtain ⟨si, hsi⟩ := HRS.out.get hlt
              have ci : wr.cell? ⟨G2, i, none⟩ = some (.bool si) := by
                have h := HS.out.cell (i := i) (j := 0) (x := si) (u := .bool si) hsi rfl
                simpa [boolE] using h
              have Hsi := Lib.hid hsi
              clear hsi
              by_cases hlt2 : k < n
              · have hk2 : (k : Int) < n := by omega
                cases si with
                | false =>
                  go_wp2_with fail
                  go_roundw
                  case rel => exact ⟨i + 1, S, b, by go_num, by omega, by trivial, HS.out, HRS.out, fun h q hq => by
                    rcases Nat.lt_or_ge q i with h2 | h2
                    · exact (Hdone.out h).1 q h2
                    · obtain rfl : q = i := by omega
                      exact fun h3 => (by rw [Hsi.out] at h3; cases h3), Hcnt.out, ho⟩
                  case measure => simp [intOf]; omega
                | true =>
                  obtain ⟨g, cG, cg⟩ := Hg.out i hlt
                  have c1 := cG wr ho
                  have c2 := cg k hlt2 wr ho
                  obtain ⟨sk, hsk⟩ := HRS.out.get hlt2
                  have ck : wr.cell? ⟨G2, k, none⟩ = some (.bool sk) := by
                    have h := HS.out.cell (i := k) (j := 0) (x := sk) (u := .bool sk) hsk rfl
                    simpa [boolE] using h
                  have fk := HS.out.frozen k
                  have Hsk := Lib.hid hsk
                  clear cG cg hsk
                  cases hed : E i k with
                  | false =>
                    rw [hed] at c2
                    have Hed := Lib.hid hed
                    clear hed
                    go_wp2_with fail
                    go_roundw
                    case rel => exact ⟨k + 1, S, b, by go_num, by omega, by trivial, HS.out, HRS.out, fun h => ⟨(Hdone.out h).1, fun h3 y hy he => by
                      rcases Nat.lt_or_ge y k with h2 | h2
                      · exact (Hdone.out h).2 h3 y h2 he
                      · obtain rfl : y = k := by omega
                        exact absurd (Hed.out.symm.trans he) (by decide)⟩, Hcnt.out, ho⟩
                    case measure => simp [intOf]; omega
                  | true =>
                    rw [hed] at c2
                    have Hed := Lib.hid hed
                    clear hed
                    cases sk with
                    | true =>
                      go_wp2_with fail
                      go_roundw
                      case rel => exact ⟨k + 1, S, b, by go_num, by omega, by trivial, HS.out, HRS.out, fun h => ⟨(Hdone.out h).1, fun h3 y hy he => by
                        rcases Nat.lt_or_ge y k with h2 | h2
                        · exact (Hdone.out h).2 h3 y h2 he
                        · obtain rfl : y = k := by omega
                          exact Hsk.out⟩, Hcnt.out, ho⟩
                      case measure => simp [intOf]; omega
                    | false =>
                      have hst : OwnS boolE 4 w2 (wr.setCell ⟨G2, k, none⟩ (.bool true)) (.slice (some ⟨G2, 0, none⟩) n n) (S.set k true) := by
                        have h := HS.out.stored (i := k) (j := 0) (x := false) (x' := true) (u := .bool true) Hsk.out (by decide) rfl
                        simpa [boolE] using h
                      have Hst := Lib.hid hst
                      have Hc1 := Lib.hid (cnt_set Hsk.out)
                      have Hm := Lib.hid (HRS.out.mark Hsi.out Hed.out hlt2)
                      clear hst
                      go_wp2_with fail
                      go_roundw
                      case rel => exact ⟨k + 1, S.set k true, true, by go_num, by omega, by trivial, Hst.out, Hm.out, fun h => (by cases h), by
                        have h1 := Hcnt.out
                        have h2 := Hc1.out
                        simp only [Bool.toNat_true]
                        omega, ho.setCell (p := ⟨G2, k, none⟩) hGw _⟩
                      case measure => simp [intOf]; omega
              · obtain rfl : k = n := by omega
                have hk2 : ¬ (k : Int) < k := by omega
                go_wp2_with fail
                go_roundw
                case rel => exact ⟨i + 1, S, b, by go_num, by omega, by trivial, HS.out, HRS.out, fun h q hq => by
                  rcases Nat.lt_or_ge q i with h2 | h2
                  · exact (Hdone.out h).1 q h2
                  · obtain rfl : q = i := by omega
                    exact (Hdone.out h).2, Hcnt.out, ho⟩
                case measure => simp [intOf]; omega
          · obtain rfl : i = n := by omega
            have hi2 : ¬ (i : Int) < i := by omega
            have hcl : S.count true ≤ i := by
              have h := List.count_le_length (a := true) (l := S)
              rw [HRS.out.len] at h; exact h
            go_wp2_with fail
            go_roundg (2 * (i - S.count true) + b.toNat)
            case measure =>
              have h1 := Hgk.out
              have h2 := Hcnt.out
              simp only [Bool.toNat_true] at h1
              have h3 : b.toNat ≤ 1 := Bool.toNat_le b
              omega
            case rel => exact ⟨S, b, by trivial, HS.out, HRS.out, Hdone.out, Nat.le_refl _, ho⟩
  · have hb : (asksE l.length tp [t] != 0) = true := by rw [bne_iff_ne]; exact hE
    have Hne := Lib.hid hE
    generalize asksE l.length tp [t] = E at *
    clear hE
    go_enter Try.func18, Try.ntmps18
    go_wp2_with fail
    refine HG.out.mono ?_
    rintro e w2 ⟨⟨u, rfl, _⟩, o2⟩
    have o3 := o0.trans o2
    clear HG o0 o2
    go_wp2_with fail
    go_ret2
    exact ⟨⟨_, rfl, by rw [if_neg Hne.out]; exact OwnI.nil _ _ _⟩, o3⟩
end Go.Proofs.Ytkaoipegbjmlnaa
