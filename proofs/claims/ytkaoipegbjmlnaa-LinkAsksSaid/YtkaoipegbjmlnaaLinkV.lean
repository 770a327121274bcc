/-
  LINK, THE DOCUMENT's, V: how far each topic is, by steps.
-/
import Derived.Test.YtkaoipegbjmlnaaLinkU
import Derived.Test.YtkaoipegbjmlnaaLinkWaysWalk
namespace Go.Proofs.Ytkaoipegbjmlnaa
open Go.RowKit
attribute [local go_sem] Old.refl Old.alloc Old.drew Old.setCell OldW.old

theorem distL_set (F : Int → Option Nat) (n k : Nat) (d : Nat) : (distL F n).set k (d : Int) = distL (fun x => if x = k then some d else F x) n := by
  unfold distL
  rw [range_set]
  refine List.map_congr_left fun j _ => ?_
  by_cases e : j = k
  · subst e
    rw [if_pos rfl]
    show (d : Int) = distV (if (j : Int) = j then some d else F j)
    rw [if_pos rfl]; rfl
  · rw [if_neg e]
    show distV (F j) = distV (if (j : Int) = k then some d else F j)
    rw [if_neg (show ¬ (j : Int) = k by omega)]
/-- all within s steps are marked -/
structure FS (E : Int → Int → Bool) (n s : Nat) (src : Int) (F : Int → Option Nat) : Prop where
  rng : ∀ x, F x ≠ none → 0 ≤ x ∧ x < n
  sound : ∀ x d, F x = some d → DistIs E src x d
  all : ∀ x d, DistIs E src x d → d ≤ s → F x = some d
section
variable {E : Int → Int → Bool} {n s : Nat} {src : Int} {F : Int → Option Nat}
theorem FS.start (h0 : 0 ≤ src) (h1 : src < n) : FS E n 0 src (fun x => if x = src then some 0 else none) := by
  refine ⟨fun x hx => ?_, fun x d hx => ?_, fun x d hx hd => ?_⟩
  · try dsimp only at hx
    split at hx
    · omega
    · exact absurd rfl hx
  · try dsimp only at hx
    split at hx
    · rename_i e
      obtain rfl := Option.some.inj hx
      rw [e]; exact DistIs.self E src
    · cases hx
  · obtain rfl : d = 0 := by omega
    show (if x = src then some 0 else none) = some 0
    rw [if_pos hx.zero]
theorem FS.mark (h : FS E n s src F) {i k : Int} (hi : F i = none) (hk : F k = some s) (he : E k i = true) (h0 : 0 ≤ i) (h1 : i < n) : FS E n s src (fun x => if x = i then some (s + 1) else F x) := by
  have hd : DistIs E src i (s + 1) := by
    refine ⟨(h.sound k s hk).1.snoc he, fun m hm => ?_⟩
    rcases Nat.lt_or_ge s m with c | c
    · exact c
    · obtain ⟨d, hd⟩ := hm.dist
      have := hd.2 m hm
      rw [h.all i d hd (by omega)] at hi
      cases hi
  refine ⟨fun x hx => ?_, fun x d hx => ?_, fun x d hx hds => ?_⟩
  · try dsimp only at hx
    split at hx
    · omega
    · exact h.rng x hx
  · try dsimp only at hx
    split at hx
    · rename_i e
      obtain rfl := Option.some.inj hx
      rw [e]; exact hd
    · exact h.sound x d hx
  · show (if x = i then some (s + 1) else F x) = some d
    split
    · rename_i e
      rw [e] at hx
      rw [hd.unique hx]
    · exact h.all x d hx hds
/-- a row has been gone through -/
def fDone (E : Int → Int → Bool) (src : Int) (F : Int → Option Nat) (s i : Nat) : Prop := DistIs E src i (s + 1) → F i = some (s + 1)
theorem FS.done (h : FS E n s src F) (hE : ∀ a b, E a b = true → (0 ≤ a ∧ a < n) ∧ 0 ≤ b ∧ b < n) {i : Nat} (hk : F i = none → ∀ k : Nat, k < n → ¬ (E k i = true ∧ F k = some s)) : fDone E src F s i := fun hd => by
  cases hF : F i with
  | some d => rw [(h.sound i d hF).unique hd]
  | none =>
    exfalso
    obtain ⟨b, hb, he⟩ := hd.back
    obtain ⟨⟨b0, b1⟩, _⟩ := hE _ _ he
    obtain ⟨k, rfl⟩ : ∃ k : Nat, b = k := ⟨b.toNat, by omega⟩
    exact hk hF k (by omega) ⟨he, h.all _ s hb (Nat.le_refl _)⟩
theorem FS.next (h : FS E n s src F) (ht : 0 ≤ src ∧ src < n) (hE : ∀ a b, E a b = true → (0 ≤ a ∧ a < n) ∧ 0 ≤ b ∧ b < n) (hd : ∀ i, i < n → fDone E src F s i) : FS E n (s + 1) src F := by
  refine ⟨h.rng, h.sound, fun x d hx hds => ?_⟩
  rcases Nat.lt_or_ge s d with c | c
  · obtain rfl : d = s + 1 := by omega
    obtain ⟨h0, h1⟩ := hx.1.rng hE ht
    obtain ⟨k, rfl⟩ : ∃ k : Nat, x = k := ⟨x.toNat, by omega⟩
    exact hd k (by omega) hx
  · exact h.all x d hx (by omega)
theorem DistIs.upto {a : Int} {s : Nat} : ∀ {d : Nat} {x : Int}, DistIs E a x d → s ≤ d → ∃ y, DistIs E a y s := fun {d} => by
  induction d with
  | zero => intro x h hs; obtain rfl : s = 0 := by omega
            exact ⟨x, h⟩
  | succ d ih =>
    intro x h hs
    by_cases e : s = d + 1
    · rw [e]; exact ⟨x, h⟩
    · obtain ⟨b, hb, _⟩ := h.back
      exact ih hb (by omega)
theorem FS.says (h : FS E n s src F) (hb : ∀ x, F x ≠ some s) (x : Int) (d : Nat) : F x = some d ↔ DistIs E src x d := by
  refine ⟨h.sound x d, fun hd => ?_⟩
  rcases Nat.lt_or_ge d s with c | c
  · exact h.all x d hd (by omega)
  · obtain ⟨y, hy⟩ := hd.upto c
    exact absurd (h.all y s hy (Nat.le_refl _)) (hb y)
theorem FS.self (h : FS E n s src F) : F src = some 0 := h.all src 0 (DistIs.self E src) (Nat.zero_le _)
theorem fDone.mark {i q : Nat} (h : fDone E src F s q) : fDone E src (fun x => if x = i then some (s + 1) else F x) s q := fun hd => by
  show (if (q : Int) = i then some (s + 1) else F q) = some (s + 1)
  split
  · rfl
  · exact h hd
end
set_option maxRecDepth 100000 in
set_option maxHeartbeats 1600000 in
theorem far_any (v : Value) (n src : Nat) (E : Int → Int → Bool) (w : World) (hg : Grid w v n E) (hE : ∀ a b, E a b = true → (0 ≤ a ∧ a < n) ∧ 0 ≤ b ∧ b < n) (hs : src < n) (hn : n ≤ 1000) :
    Calls Try.prog 27 #[v, .int .i64 src] w fun e w' => (∃ u, e = .returned u ∧ ∃ D : Int → Option Nat, OwnI 3 w w' u (distL D n) ∧ (∀ x d, D x = some d ↔ DistIs (fun a b => E b a) src x d) ∧ ∀ x d, D x = some d → d < n) ∧ Old w w' := by
  obtain ⟨G, rfl, hg2⟩ := hg.at'
  have Hg := Lib.hid hg2
  have HE : Hid (∀ a b, (fun a b => E b a) a b = true → (0 ≤ a ∧ a < n) ∧ 0 ≤ b ∧ b < n) := fun a b h => ⟨(hE b a h).2, (hE b a h).1⟩
  have Hs := Lib.hid hs
  clear hg hg2 hE
  go_enter Try.func27, Try.ntmps27
  go_wp2_with (at_make; refine wpList_make_ints (w0 := w) rfl _ _ 23 rfl 3 Try.underlying23 infoInt n rfl rfl (by omega) (Old.refl w) ?_; intro w5 hown ho5 hs5)
  generalize hG2 : w.heap.size = G2 at *
  have hwG : w.heap.size ≤ G2 := by rw [hG2]; exact Nat.le_refl _
  clear hG2
  go_loopw [6] (fun j wx => ∃ k : Nat, j = .int .i64 k ∧ k ≤ n ∧ OwnI 3 w wx (.slice (some ⟨G2, 0, none⟩) n n) (rowD (fun _ => none) n k) ∧ Old w wx) (fun j _ => n - (intOf j).toNat)
  case atStart => exact ⟨0, rfl, Nat.zero_le _, by rw [rowD_zero]; exact hown, ho5⟩
  case round =>
    clear hown ho5 hs5
    obtain ⟨k, rfl, hk, hS, ho⟩ := hrel
    have HS := Lib.hid hS
    clear hS
    by_cases hlt : k < n
    · have hi : (k : Int) < n := by omega
      have c2 := HS.out.cell (k := k) (by rw [rowD_len]; exact hlt)
      have f2 := HS.out.frozen k
      have HS1 := Lib.hid (HS.out.stored k (-1))
      have o1 : Old w (wr.setCell ⟨G2, k, none⟩ (.int .i64 (-1))) := ho.setCell (p := ⟨G2, k, none⟩) hwG _
      have Hset : Hid ((rowD (fun _ => none) n k).set k (-1) = rowD (fun _ => none) n (k + 1)) := rowD_set (fun _ => none) n k
      go_wp2_with fail
      go_roundw
      case rel => exact ⟨k + 1, by go_num, by omega, by rw [← Hset.out]; exact HS1.out, o1⟩
      case measure => simp [intOf]; omega
    · obtain rfl : k = n := by omega
      rw [rowD_full] at HS
      have hi : ¬ (k : Int) < k := by omega
      have c2 := HS.out.cell (k := src) (by rw [distL_len]; exact hs)
      have f2 := HS.out.frozen src
      have HS1 := Lib.hid (HS.out.stored src ((0 : Nat) : Int))
      rw [distL_set] at HS1
      have o1 : Old w (wr.setCell ⟨G2, src, none⟩ (.int .i64 ((0 : Nat) : Int))) := ho.setCell (p := ⟨G2, src, none⟩) hwG _
      have hc0 : cntM (fun x : Int => if x = src then some 0 else none) k = 1 := by
        have h1 := cntM_mark (F := fun _ => none) (d := 0) (y := (src : Int)) rfl (by omega) (n := k) (by omega)
        have h2 : ∀ k, cntM (fun _ => none) k = 0 := fun k => by
          induction k with
          | zero => rfl
          | succ k ih => unfold cntM; rw [ih]; rfl
        rw [h1, h2]
      have Hc0 := Lib.hid hc0
      clear hc0
      go_wp2_with fail
      go_loopg [7, 8] (2 * k + 2) (fun c x y wr => ∃ (s : Nat) (b : Bool) (F : Int → Option Nat), x = .int .i64 s ∧ y = .bool b ∧ OwnI 3 w wr (.slice (some ⟨G2, 0, none⟩) k k) (distL F k) ∧ FS (fun a b => E b a) k s src F ∧ (∀ x d, F x = some d → d ≤ s) ∧ (b = false → ∀ x, F x ≠ some s) ∧ (b = true → s + 1 ≤ cntM F k) ∧ s ≤ k ∧ 2 * (k - cntM F k) + b.toNat ≤ c ∧ Old w wr)
      case atStart =>
        exact ⟨0, true, _, rfl, rfl, HS1.out, FS.start (by omega) (by omega), fun x d hx => (by
          try dsimp only at hx
          split at hx
          · obtain rfl := Option.some.inj hx; exact Nat.le_refl _
          · cases hx), fun h => (by cases h), fun _ => by rw [Hc0.out]; exact Nat.le_refl _, Nat.zero_le _, by rw [Hc0.out]; simp; omega, o1⟩
      case round =>
        clear HS HS1 Hc0 c2 f2 o1 ho
        obtain ⟨s, b, F, rfl, rfl, hS, hF, hle, hno, hsc, hsk0, hgk, ho⟩ := hrel
        have HS := Lib.hid hS
        have HF := Lib.hid hF
        have Hle := Lib.hid hle
        have Hno := Lib.hid hno
        have Hsc := Lib.hid hsc
        have Hgk := Lib.hid hgk
        clear hS hF hle hno hsc hgk
        cases b with
        | false =>
          go_wp2_with fail
          go_ret
          exact ⟨⟨_, rfl, F, HS.out, HF.out.says (Hno.out trivial), fun x d h => by
            have h1 := Hle.out x d h
            rcases Nat.lt_or_ge d s with h2 | h2
            · omega
            · exact absurd (by rw [h]; congr 1; omega) (Hno.out trivial x)⟩, ho⟩
        | true =>
          have hs1 := Hsc.out rfl
          have hcn := cntM_le F k
          have hsk : s < 1000 := by omega
          clear Hsc
          generalize hc0 : cntM F k = c0 at *
          have Hc0 := Lib.hid hc0
          clear hc0
          go_wp2_with fail
          go_loopw [8, 9] (fun x j wx => ∃ (i : Nat) (b : Bool) (F : Int → Option Nat), j = .int .i64 i ∧ i ≤ k ∧ x = .bool b ∧ OwnI 3 w wx (.slice (some ⟨G2, 0, none⟩) k k) (distL F k) ∧ FS (fun a b => E b a) k s src F ∧ (∀ x d, F x = some d → d ≤ s + 1) ∧ (b = false → ∀ x, F x ≠ some (s + 1)) ∧ (∀ q, q < i → fDone (fun a b => E b a) src F s q) ∧ c0 + b.toNat ≤ cntM F k ∧ Old w wx) (fun _ j _ => k - (intOf j).toNat)
          case atStart => exact ⟨0, false, F, rfl, Nat.zero_le _, rfl, HS.out, HF.out, fun x d h => by have := Hle.out x d h; omega, fun _ x h => by have := Hle.out x _ h; omega, fun q hq => absurd hq (Nat.not_lt_zero q), by rw [Hc0.out]; simp, ho⟩
          case round =>
            clear HS HF Hle Hno Hc0 ho
            obtain ⟨i, b, F, rfl, hi2, rfl, hS, hF, hle, hno, hdn, hcnt, ho⟩ := hrel
            have HS := Lib.hid hS
            have HF := Lib.hid hF
            have Hle := Lib.hid hle
            have Hno := Lib.hid hno
            have Hdn := Lib.hid hdn
            have Hcnt := Lib.hid hcnt
            clear hS hF hle hno hdn hcnt
            by_cases hlt : i < k
            · have hi3 : (i : Int) < k := by omega
              go_wp2_with fail
              go_loopw [8, 10] (fun x j wx => ∃ (m : Nat) (b : Bool) (F : Int → Option Nat), j = .int .i64 m ∧ m ≤ k ∧ x = .bool b ∧ OwnI 3 w wx (.slice (some ⟨G2, 0, none⟩) k k) (distL F k) ∧ FS (fun a b => E b a) k s src F ∧ (∀ x d, F x = some d → d ≤ s + 1) ∧ (b = false → ∀ x, F x ≠ some (s + 1)) ∧ (∀ q, q < i → fDone (fun a b => E b a) src F s q) ∧ (F i = none → ∀ q : Nat, q < m → ¬ (E i q = true ∧ F q = some s)) ∧ c0 + b.toNat ≤ cntM F k ∧ Old w wx) (fun _ j _ => k - (intOf j).toNat)
              case atStart => exact ⟨0, b, F, rfl, Nat.zero_le _, rfl, HS.out, HF.out, Hle.out, Hno.out, Hdn.out, fun _ q hq => absurd hq (Nat.not_lt_zero q), Hcnt.out, ho⟩
              case round =>
                clear HS HF Hle Hno Hdn Hcnt ho
                obtain ⟨m, b, F, rfl, hm, rfl, hS, hF, hle, hno, hdn, hin, hcnt, ho⟩ := hrel
                have HS := Lib.hid hS
                have HF := Lib.hid hF
                have Hle := Lib.hid hle
                have Hno := Lib.hid hno
                have Hdn := Lib.hid hdn
                have Hin := Lib.hid hin
                have Hcnt := Lib.hid hcnt
                clear hS hF hle hno hdn hin hcnt
                have ci := HS.out.cell (k := i) (by rw [distL_len]; exact hlt)
                rw [distL_ix hlt] at ci
                by_cases hlt2 : m < k
                · have hm3 : (m : Int) < k := by omega
                  cases hFi : F i with
                  | some d =>
                    rw [hFi] at ci
                    change wr.cell? ⟨G2, i, none⟩ = some (.int .i64 (d : Int)) at ci
                    have HFi := Lib.hid hFi
                    have hd0 : ¬ (d : Int) < 0 := by omega
                    clear hFi
                    go_wp2_with fail
                    go_roundw
                    case rel => exact ⟨i + 1, b, F, by go_num, by omega, by trivial, HS.out, HF.out, Hle.out, Hno.out, fun q hq => by
                      rcases Nat.lt_or_ge q i with h2 | h2
                      · exact Hdn.out q h2
                      · obtain rfl : q = i := by omega
                        exact HF.out.done HE.out (fun h => by rw [HFi.out] at h; cases h), Hcnt.out, ho⟩
                    case measure => simp [intOf]; omega
                  | none =>
                    rw [hFi] at ci
                    change wr.cell? ⟨G2, i, none⟩ = some (.int .i64 (-1)) at ci
                    have HFi := Lib.hid hFi
                    clear hFi
                    obtain ⟨g, cG, cg⟩ := Hg.out i hlt
                    have c1 := cG wr ho
                    have c2 := cg m hlt2 wr ho
                    have cm := HS.out.cell (k := m) (by rw [distL_len]; exact hlt2)
                    rw [distL_ix hlt2] at cm
                    have fi := HS.out.frozen i
                    have Heq : Hid (distV (F m) = s ↔ F m = some s) := distV_eq
                    generalize hyv : distV (F m) = yv at *
                    clear cG cg hyv
                    have Hin2 : Hid (¬ (E i m = true ∧ F m = some s) → F i = none → ∀ q : Nat, q < m + 1 → ¬ (E i q = true ∧ F q = some s)) := fun h h0 q hq => by
                      rcases Nat.lt_or_ge q m with h2 | h2
                      · exact Hin.out h0 q h2
                      · obtain rfl : q = m := by omega
                        exact h
                    cases hed : E i m with
                    | false =>
                      rw [hed] at c2
                      have Hed := Lib.hid hed
                      clear hed
                      go_wp2_with fail
                      go_roundw
                      case rel => exact ⟨m + 1, b, F, by go_num, by omega, by trivial, HS.out, HF.out, Hle.out, Hno.out, Hdn.out, Hin2.out (fun h => by rw [Hed.out] at h; cases h.1), Hcnt.out, ho⟩
                      case measure => simp [intOf]; omega
                    | true =>
                      rw [hed] at c2
                      have Hed := Lib.hid hed
                      clear hed
                      by_cases e : yv = s
                      · have hb : (yv == (s : Int)) = true := by rw [beq_iff_eq]; exact e
                        have HFm := Lib.hid (Heq.out.1 e)
                        have HS1 := Lib.hid (HS.out.stored i ((s + 1 : Nat) : Int))
                        rw [distL_set] at HS1
                        have HF1 := Lib.hid (HF.out.mark HFi.out HFm.out Hed.out (show (0 : Int) ≤ i by omega) hi3)
                        have Hcm := Lib.hid (cntM_mark (d := s + 1) HFi.out (show (0 : Int) ≤ i by omega) hi3)
                        have o1 : Old w (wr.setCell ⟨G2, i, none⟩ (.int .i64 ((s + 1 : Nat) : Int))) := ho.setCell (p := ⟨G2, i, none⟩) hwG _
                        have hsp : ((s : Int) + 1) = ((s + 1 : Nat) : Int) := by omega
                        have Hsp := Lib.hid hsp
                        clear e hsp
                        go_wp2_with fail
                        go_roundw
                        case rel => exact ⟨m + 1, true, fun x => if x = i then some (s + 1) else F x, by go_num, by omega, by trivial, by rw [Hsp.out]; exact HS1.out, HF1.out, fun x d h => by
                          try dsimp only at h
                          split at h
                          · obtain rfl := Option.some.inj h; exact Nat.le_refl _
                          · exact Hle.out x d h, fun h => (by cases h), fun q hq => (Hdn.out q hq).mark, fun h => by
                          exfalso
                          have h2 : (if (i : Int) = i then some (s + 1) else F i) = none := h
                          rw [if_pos rfl] at h2
                          exact absurd h2 (by simp), by
                          rw [Hcm.out]
                          have h2 := Hcnt.out
                          simp only [Bool.toNat_true]
                          omega, by rw [Hsp.out]; exact o1⟩
                        case measure => simp [intOf]; omega
                      · have hb : (yv == (s : Int)) = false := by rw [beq_eq_false_iff_ne]; exact e
                        have HFm := Lib.hid (fun h => e (Heq.out.2 h))
                        clear e
                        go_wp2_with fail
                        go_roundw
                        case rel => exact ⟨m + 1, b, F, by go_num, by omega, by trivial, HS.out, HF.out, Hle.out, Hno.out, Hdn.out, Hin2.out (fun h => HFm.out h.2), Hcnt.out, ho⟩
                        case measure => simp [intOf]; omega
                · obtain rfl : m = k := by omega
                  have hm3 : ¬ (m : Int) < m := by omega
                  clear ci
                  go_wp2_with fail
                  go_roundw
                  case rel => exact ⟨i + 1, b, F, by go_num, by omega, by trivial, HS.out, HF.out, Hle.out, Hno.out, fun q hq => by
                    rcases Nat.lt_or_ge q i with h2 | h2
                    · exact Hdn.out q h2
                    · obtain rfl : q = i := by omega
                      exact HF.out.done HE.out Hin.out, Hcnt.out, ho⟩
                  case measure => simp [intOf]; omega
            · obtain rfl : i = k := by omega
              have hi3 : ¬ (i : Int) < i := by omega
              have hcl := cntM_le F i
              have hsrc := Hs.out
              go_wp2_with fail
              go_roundg (2 * (i - cntM F i) + b.toNat)
              case measure =>
                have h1 := Hgk.out
                have h2 := Hcnt.out
                simp only [Bool.toNat_true] at h1
                have h3 : b.toNat ≤ 1 := Bool.toNat_le b
                omega
              case rel => exact ⟨s + 1, b, F, by go_num, by trivial, HS.out, HF.out.next ⟨by omega, by omega⟩ HE.out Hdn.out, Hle.out, Hno.out, fun hb => by
                have h2 := Hcnt.out
                rw [hb] at h2
                simp only [Bool.toNat_true] at h2
                omega, by omega, Nat.le_refl _, ho⟩
end Go.Proofs.Ytkaoipegbjmlnaa
