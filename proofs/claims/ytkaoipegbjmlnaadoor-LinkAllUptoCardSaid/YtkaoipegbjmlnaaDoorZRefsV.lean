/-
  HOW MANY TOPICS AND REFERENCES SOURCES HAVE: the document's counts.
-/
import Derived.Test.YtkaoipegbjmlnaaDoorZRefsU
namespace Go.Proofs.YtkaoipegbjmlnaaDoor
open Go.RowKit
attribute [local go_sem] Old.refl Old.alloc Old.drew Old.setCell OldW.old

set_option maxRecDepth 100000 in
set_option maxHeartbeats 3200000 in
theorem counts8_any (v : Value) (S : List (List (List (List Pc)))) (w : World) (hv : Srcs w v S) (hT : nT S ≤ 4611686018427387904) (hS : nS S ≤ 4611686018427387904) :
    Calls Tryd.prog 14 #[v] w fun e w' => e = .returned (.tuple #[.int .i64 (nT S), .int .i64 (nS S)]) ∧ Old w w' := by
  obtain ⟨a, cap, rfl, hc1, hc2⟩ := hv.form
  obtain ⟨bs, os, has, hats⟩ := Srcs.open hv
  have Has := Lib.hid has
  have Hats := Lib.hid hats
  clear hv has hats
  go_enter Tryd.func14, Tryd.ntmps14
  go_wp2_with fail
  generalize hNT : nT S = NT at *
  generalize hNS : nS S = NS at *
  have HNT := Lib.hid hNT
  have HNS := Lib.hid hNS
  go_loopw [4, 5, 6] (fun x y j wr => ∃ i tp rf : Nat, j = .int .i64 i ∧ x = .int .i64 tp ∧ y = .int .i64 rf ∧ i ≤ S.length ∧ tp + nT (S.drop i) = NT ∧ rf + nS (S.drop i) = NS ∧ w = wr) (fun _ _ j _ => S.length - (intOf j).toNat)
  case atStart => exact ⟨0, 0, 0, rfl, rfl, rfl, Nat.zero_le _, by rw [List.drop_zero, Nat.zero_add]; exact hNT, by rw [List.drop_zero, Nat.zero_add]; exact hNS, rfl⟩
  case round =>
    obtain ⟨i, tp, rf, rfl, rfl, rfl, hi, htp, hrf, rfl⟩ := hrel
    clear hNT hNS
    by_cases hlt : i < S.length
    · have hi1 : (i : Int) < S.length := by omega
      obtain ⟨T, hTi⟩ : ∃ T, S[i]? = some T := ⟨_, List.getElem?_eq_getElem hlt⟩
      rw [nT_drop hTi] at htp
      rw [nS_drop hTi] at hrf
      obtain ⟨ax, cx, hcs, hTs, k1, k2⟩ := Hats.out i T hTi
      obtain rfl := Has.out (by omega)
      have s1 := (hcs w (Old.refl w)).2
      obtain ⟨bt, ot, hat, hatt⟩ := Tops.open hTs
      have Hat := Lib.hid hat
      have Hatt := Lib.hid hatt
      generalize hr1 : nS (S.drop (i + 1)) = r1 at *
      generalize hr2 : nT (S.drop (i + 1)) = r2 at *
      have Hr1 := Lib.hid hr1
      have Hr2 := Lib.hid hr2
      clear hcs hTs hat hatt hTi hr1 hr2
      go_wp2_with fail
      go_loopw [4, 5, 7] (fun x y j wr => ∃ k tp rf : Nat, j = .int .i64 k ∧ x = .int .i64 tp ∧ y = .int .i64 rf ∧ k ≤ T.length ∧ tp + (T.length - k) + r2 = NT ∧ rf + (nR (T.drop k) + r1) = NS ∧ w = wr) (fun _ _ j _ => T.length - (intOf j).toNat)
      case atStart => exact ⟨0, tp, rf, rfl, rfl, rfl, Nat.zero_le _, by omega, hrf, rfl⟩
      case round =>
        clear hrf htp
        obtain ⟨k, tp, rf, rfl, rfl, rfl, hk, htp, hrf, rfl⟩ := hrel
        by_cases hlt2 : k < T.length
        · have hk1 : (k : Int) < T.length := by omega
          obtain ⟨B, hBk⟩ : ∃ B, T[k]? = some B := ⟨_, List.getElem?_eq_getElem hlt2⟩
          rw [nR_drop hBk] at hrf
          obtain ⟨ab, cb, hcs, hBs, k3, k4⟩ := Hatt.out k B hBk
          obtain rfl := Hat.out (by omega)
          have t6 := (hcs w (Old.refl w)).2.2.2.2.2.2.1
          obtain ⟨bb, ob, hab, habt⟩ := Blks.open hBs
          have Hab := Lib.hid hab
          have Habt := Lib.hid habt
          generalize hr3 : nR (T.drop (k + 1)) = r3 at *
          have Hr3 := Lib.hid hr3
          have htpl : (tp : Int) + 1 ≤ 4611686018427387904 := by omega
          clear hcs hBs hab habt hBk hr3
          go_wp2_with fail
          go_loopw [5, 9] (fun y j wr => ∃ i rf : Nat, j = .int .i64 i ∧ y = .int .i64 rf ∧ i ≤ B.length ∧ rf + (nB (B.drop i) + r3 + r1) = NS ∧ w = wr) (fun _ j _ => B.length - (intOf j).toNat)
          case atStart => exact ⟨0, rf, rfl, rfl, Nat.zero_le _, hrf, rfl⟩
          case round =>
            clear hrf
            obtain ⟨n, rf, rfl, rfl, hn, hrf, rfl⟩ := hrel
            by_cases hlt3 : n < B.length
            · have hn1 : (n : Int) < B.length := by omega
              obtain ⟨P, hPn⟩ : ∃ P, B[n]? = some P := ⟨_, List.getElem?_eq_getElem hlt3⟩
              rw [nB_drop hPn] at hrf
              obtain ⟨kd, ap, cp, hcs, hPs, k5, k6⟩ := Habt.out n P hPn
              obtain rfl := Hab.out (by omega)
              have b4 := (hcs w (Old.refl w)).2.2.2.2.1
              obtain ⟨bp, op, hap, hapt⟩ := Ins.open hPs
              have Hap := Lib.hid hap
              have Hapt := Lib.hid hapt
              generalize hr4 : nB (B.drop (n + 1)) = r4 at *
              have Hr4 := Lib.hid hr4
              clear hcs hPs hap hapt hPn hr4
              go_wp2_with fail
              go_loopw [5, 10] (fun y j wr => ∃ i rf : Nat, j = .int .i64 i ∧ y = .int .i64 rf ∧ i ≤ P.length ∧ rf + (nP (P.drop i) + r4 + r3 + r1) = NS ∧ w = wr) (fun _ j _ => P.length - (intOf j).toNat)
              case atStart => exact ⟨0, rf, rfl, rfl, Nat.zero_le _, hrf, rfl⟩
              case round =>
                clear hrf
                obtain ⟨m, rf, rfl, rfl, hm, hrf, rfl⟩ := hrel
                by_cases hlt4 : m < P.length
                · have hm1 : (m : Int) < P.length := by omega
                  obtain ⟨x, hxm⟩ : ∃ x, P[m]? = some x := ⟨_, List.getElem?_eq_getElem hlt4⟩
                  rw [nP_drop hxm] at hrf
                  have c0 := (Hapt.out m x hxm w (Old.refl w)).1
                  obtain rfl := Hap.out (by omega)
                  generalize hr5 : nP (P.drop (m + 1)) = r5 at *
                  have Hr5 := Lib.hid hr5
                  clear hxm hr5
                  have hrb : refB x = (x.kind == 3 || x.kind == 4) := rfl
                  rw [hrb] at hrf
                  clear hrb
                  by_cases h3 : x.kind = 3
                  · have hb3 : (x.kind == 3) = true := by rw [beq_iff_eq]; exact h3
                    rw [hb3] at hrf
                    simp only [Bool.true_or, Bool.toNat_true] at hrf
                    have hrl : (rf : Int) ≤ 4611686018427387904 := by omega
                    clear h3
                    go_wp2_with fail
                    go_roundw
                    case rel => exact ⟨m + 1, rf + 1, by go_num, by go_num, by omega, by rw [Hr5.out]; omega, by first | rfl | trivial⟩
                    case measure => simp [intOf]; omega
                  · have hb3 : (x.kind == 3) = false := by rw [beq_eq_false_iff_ne]; exact h3
                    rw [hb3] at hrf
                    by_cases h4 : x.kind = 4
                    · have hb4 : (x.kind == 4) = true := by rw [beq_iff_eq]; exact h4
                      rw [hb4] at hrf
                      simp only [Bool.or_true, Bool.toNat_true] at hrf
                      have hrl : (rf : Int) ≤ 4611686018427387904 := by omega
                      clear h3 h4
                      go_wp2_with fail
                      go_roundw
                      case rel => exact ⟨m + 1, rf + 1, by go_num, by go_num, by omega, by rw [Hr5.out]; omega, by first | rfl | trivial⟩
                      case measure => simp [intOf]; omega
                    · have hb4 : (x.kind == 4) = false := by rw [beq_eq_false_iff_ne]; exact h4
                      rw [hb4] at hrf
                      simp only [Bool.or_false, Bool.toNat_false] at hrf
                      clear h3 h4
                      go_wp2_with fail
                      go_roundw
                      case rel => exact ⟨m + 1, rf, by go_num, by first | rfl | trivial, by omega, by rw [Hr5.out]; omega, by first | rfl | trivial⟩
                      case measure => simp [intOf]; omega
                · have hmP : m = P.length := by omega
                  subst hmP
                  have hm1 : ¬ (P.length : Int) < P.length := by omega
                  rw [List.drop_length] at hrf
                  go_wp2_with fail
                  go_roundw
                  case rel => exact ⟨n + 1, rf, by go_num, by first | rfl | trivial, by omega, by rw [Hr4.out]; have h0 : nP [] = 0 := rfl; omega, by first | rfl | trivial⟩
                  case measure => simp [intOf]; omega
            · have hnB : n = B.length := by omega
              subst hnB
              have hn1 : ¬ (B.length : Int) < B.length := by omega
              rw [List.drop_length] at hrf
              go_wp2_with fail
              go_roundw
              case rel => exact ⟨k + 1, tp + 1, rf, by go_num, by go_num, by first | rfl | trivial, by omega, by omega, by rw [Hr3.out]; have h0 : nB [] = 0 := rfl; omega, by first | rfl | trivial⟩
              case measure => simp [intOf]; omega
        · have hkT : k = T.length := by omega
          subst hkT
          have hk1 : ¬ (T.length : Int) < T.length := by omega
          rw [List.drop_length] at hrf
          go_wp2_with fail
          go_roundw
          case rel => exact ⟨i + 1, tp, rf, by go_num, by first | rfl | trivial, by first | rfl | trivial, by omega, by rw [Hr2.out]; omega, by rw [Hr1.out]; have h0 : nR [] = 0 := rfl; omega, by first | rfl | trivial⟩
          case measure => simp [intOf]; omega
    · have hiS : i = S.length := by omega
      subst hiS
      have hi1 : ¬ (S.length : Int) < S.length := by omega
      rw [List.drop_length] at htp hrf
      have h0 : nT [] = 0 := rfl
      have h1 : nS [] = 0 := rfl
      rw [h0, Nat.add_zero] at htp
      rw [h1, Nat.add_zero] at hrf
      subst htp
      subst hrf
      clear h0 h1
      go_wp2_with fail
      go_ret2
      exact ⟨ret_two (by rw [HNT.out]; rfl) (by rw [HNS.out]; rfl), Old.refl _⟩
end Go.Proofs.YtkaoipegbjmlnaaDoor
