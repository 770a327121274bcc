/-
  HOW MANY TOPICS AND REFERENCES SOURCES HAVE: the program's few, the document's counts.
-/
import Derived.Test.YtkaoipegbjmlnaaDoorZRefsP
namespace Go.Proofs.YtkaoipegbjmlnaaDoor
open Go.RowKit
attribute [local go_sem] Old.refl Old.alloc Old.drew Old.setCell OldW.old

theorem Srcs.open {w : World} {a : Option Addr} {n cap : Nat} {S : List (List (List (List Pc)))} (h : Seqs srE SrcR w (.slice a n cap) S) : ∃ b off, (0 < S.length → a = some ⟨b, off, none⟩) ∧ ∀ (i : Nat) (T : List (List (List Pc))), S[i]? = some T →
    ∃ ax cx, (∀ V, Old w V → V.cell? ⟨b, off + i * 2, none⟩ = some (.slice none 0 0) ∧ V.cell? ⟨b, off + i * 2 + 1, none⟩ = some (.slice ax T.length cx)) ∧ Seqs tpE TopR w (.slice ax T.length cx) T ∧ T.length ≤ cx ∧ cx ≤ 9223372036854775807 := by
  obtain ⟨b, off, ha, h⟩ := h.at
  refine ⟨b, off, ha, fun i T hT => ?_⟩
  obtain ⟨⟨ax, m, cx⟩, hR, hc⟩ := h i T hT
  obtain ⟨_, _, e, k1, k2⟩ := Seqs.form hR
  obtain ⟨rfl, rfl, rfl⟩ := Value.slice.inj e
  exact ⟨ax, cx, fun V o => ⟨hc 0 _ rfl V o, by have := hc 1 _ rfl V o; rw [← Nat.add_assoc] at this; exact this⟩, hR, k1, k2⟩
theorem Tops.open {w : World} {a : Option Addr} {n cap : Nat} {S : List (List (List Pc))} (h : Seqs tpE TopR w (.slice a n cap) S) : ∃ b off, (0 < S.length → a = some ⟨b, off, none⟩) ∧ ∀ (i : Nat) (T : List (List Pc)), S[i]? = some T →
    ∃ ax cx, (∀ V, Old w V → V.cell? ⟨b, off + i * 8, none⟩ = some (.int .i64 0) ∧ V.cell? ⟨b, off + i * 8 + 1, none⟩ = some (.string ⟨#[]⟩) ∧ V.cell? ⟨b, off + i * 8 + 2, none⟩ = some (.string ⟨#[]⟩) ∧ V.cell? ⟨b, off + i * 8 + 3, none⟩ = some (.int .i64 0) ∧ V.cell? ⟨b, off + i * 8 + 4, none⟩ = some (.slice none 0 0) ∧ V.cell? ⟨b, off + i * 8 + 5, none⟩ = some (.slice none 0 0) ∧ V.cell? ⟨b, off + i * 8 + 6, none⟩ = some (.slice ax T.length cx) ∧ V.cell? ⟨b, off + i * 8 + 7, none⟩ = some (.int .i64 0)) ∧
      Seqs blE BlkR w (.slice ax T.length cx) T ∧ T.length ≤ cx ∧ cx ≤ 9223372036854775807 := by
  obtain ⟨b, off, ha, h⟩ := h.at
  refine ⟨b, off, ha, fun i T hT => ?_⟩
  obtain ⟨⟨ax, m, cx⟩, hR, hc⟩ := h i T hT
  obtain ⟨_, _, e, k1, k2⟩ := Seqs.form hR
  obtain ⟨rfl, rfl, rfl⟩ := Value.slice.inj e
  refine ⟨ax, cx, fun V o => ?_, hR, k1, k2⟩
  have g0 := hc 0 _ rfl V o
  have g1 := hc 1 _ rfl V o
  have g2 := hc 2 _ rfl V o
  have g3 := hc 3 _ rfl V o
  have g4 := hc 4 _ rfl V o
  have g5 := hc 5 _ rfl V o
  have g6 := hc 6 _ rfl V o
  have g7 := hc 7 _ rfl V o
  rw [← Nat.add_assoc] at g1 g2 g3 g4 g5 g6 g7
  exact ⟨g0, g1, g2, g3, g4, g5, g6, g7⟩
theorem Blks.open {w : World} {a : Option Addr} {n cap : Nat} {S : List (List Pc)} (h : Seqs blE BlkR w (.slice a n cap) S) : ∃ b off, (0 < S.length → a = some ⟨b, off, none⟩) ∧ ∀ (i : Nat) (T : List Pc), S[i]? = some T →
    ∃ kd ax cx, (∀ V, Old w V → V.cell? ⟨b, off + i * 6, none⟩ = some (.int .i64 kd) ∧ V.cell? ⟨b, off + i * 6 + 1, none⟩ = some (.int .i64 0) ∧ V.cell? ⟨b, off + i * 6 + 2, none⟩ = some (.string ⟨#[]⟩) ∧ V.cell? ⟨b, off + i * 6 + 3, none⟩ = some (.slice none 0 0) ∧ V.cell? ⟨b, off + i * 6 + 4, none⟩ = some (.slice ax T.length cx) ∧ V.cell? ⟨b, off + i * 6 + 5, none⟩ = some (.int .i64 0)) ∧
      Recs inE w (.slice ax T.length cx) T ∧ T.length ≤ cx ∧ cx ≤ 9223372036854775807 := by
  obtain ⟨b, off, ha, h⟩ := h.at
  refine ⟨b, off, ha, fun i T hT => ?_⟩
  obtain ⟨⟨kd, ax, m, cx⟩, hR, hc⟩ := h i T hT
  obtain ⟨_, _, e, k1, k2⟩ := Recs.form hR
  obtain ⟨rfl, rfl, rfl⟩ := Value.slice.inj e
  refine ⟨kd, ax, cx, fun V o => ?_, hR, k1, k2⟩
  have g0 := hc 0 _ rfl V o
  have g1 := hc 1 _ rfl V o
  have g2 := hc 2 _ rfl V o
  have g3 := hc 3 _ rfl V o
  have g4 := hc 4 _ rfl V o
  have g5 := hc 5 _ rfl V o
  rw [← Nat.add_assoc] at g1 g2 g3 g4 g5
  exact ⟨g0, g1, g2, g3, g4, g5⟩
theorem Ins.open {w : World} {a : Option Addr} {n cap : Nat} {S : List Pc} (h : Recs inE w (.slice a n cap) S) : ∃ b off, (0 < S.length → a = some ⟨b, off, none⟩) ∧ ∀ (i : Nat) (x : Pc), S[i]? = some x →
    ∀ V, Old w V → V.cell? ⟨b, off + i * 5, none⟩ = some (.int .i64 x.kind) ∧ V.cell? ⟨b, off + i * 5 + 1, none⟩ = some (.string ⟨#[]⟩) ∧ V.cell? ⟨b, off + i * 5 + 2, none⟩ = some (.string x.name) ∧ V.cell? ⟨b, off + i * 5 + 3, none⟩ = some (.int .i64 x.line) ∧ V.cell? ⟨b, off + i * 5 + 4, none⟩ = some (.int .i64 x.col) := by
  obtain ⟨a', cap', b, off, e, _, _, h3, ht⟩ := h
  obtain ⟨rfl, _, rfl⟩ := Value.slice.inj e
  refine ⟨b, off, h3, fun i x hx V o => ?_⟩
  have g0 := ht (i * 5 + 0) _ (Enc.all_at (c := inE) (j := 0) hx rfl) V o
  have g1 := ht (i * 5 + 1) _ (Enc.all_at (c := inE) (j := 1) hx rfl) V o
  have g2 := ht (i * 5 + 2) _ (Enc.all_at (c := inE) (j := 2) hx rfl) V o
  have g3 := ht (i * 5 + 3) _ (Enc.all_at (c := inE) (j := 3) hx rfl) V o
  have g4 := ht (i * 5 + 4) _ (Enc.all_at (c := inE) (j := 4) hx rfl) V o
  rw [← Nat.add_assoc] at g1 g2 g3 g4
  exact ⟨g0, g1, g2, g3, g4⟩
theorem nP_drop {l : List Pc} {i : Nat} {x : Pc} (h : l[i]? = some x) : nP (l.drop i) = (refB x).toNat + nP (l.drop (i + 1)) := by
  rw [drop_at h]
  unfold nP
  rw [List.countP_cons]
  cases refB x <;> simp <;> omega
theorem nB_drop {l : List (List Pc)} {i : Nat} {x : List Pc} (h : l[i]? = some x) : nB (l.drop i) = nP x + nB (l.drop (i + 1)) := by
  rw [drop_at h]; rfl
theorem nR_drop {l : List (List (List Pc))} {i : Nat} {x : List (List Pc)} (h : l[i]? = some x) : nR (l.drop i) = nB x + nR (l.drop (i + 1)) := by
  rw [drop_at h]; rfl
theorem nS_drop {l : List (List (List (List Pc)))} {i : Nat} {x : List (List (List Pc))} (h : l[i]? = some x) : nS (l.drop i) = nR x + nS (l.drop (i + 1)) := by
  rw [drop_at h]; rfl
theorem nT_drop {l : List (List (List (List Pc)))} {i : Nat} {x : List (List (List Pc))} (h : l[i]? = some x) : nT (l.drop i) = x.length + nT (l.drop (i + 1)) := by
  rw [drop_at h]; rfl
theorem refB_iff {x : Pc} : refB x = true ↔ x.kind = 3 ∨ x.kind = 4 := by
  unfold refB
  rw [Bool.or_eq_true, beq_iff_eq, beq_iff_eq]
set_option maxRecDepth 100000 in
set_option maxHeartbeats 3200000 in
theorem few_any (v : Value) (S : List (List (List (List Pc)))) (w : World) (hv : Srcs w v S) (hT : nT S ≤ 4611686018427387904) (hS : nS S ≤ 4611686018427387904) :
    Calls Tryd.prog 11 #[v] w fun e w' => (∃ u, e = .returned u ∧ ((¬ (1000 < nT S ∨ 65536 < nS S) ∧ u = .nilIface) ∨ ((1000 < nT S ∨ 65536 < nS S) ∧ IsErr w' u 2 0 0 0 ⟨#[]⟩))) ∧ Old w w' := by
  obtain ⟨a, cap, rfl, hc1, hc2⟩ := hv.form
  obtain ⟨bs, os, has, hats⟩ := Srcs.open hv
  have Has := Lib.hid has
  have Hats := Lib.hid hats
  clear hv has hats
  go_enter Tryd.func11, Tryd.ntmps11
  go_wp2_with fail
  generalize hNT : nT S = NT at *
  generalize hNS : nS S = NS at *
  go_loopw [3, 4, 15] (fun x y j wr => ∃ i tp rf : Nat, j = .int .i64 i ∧ x = .int .i64 tp ∧ y = .int .i64 rf ∧ i ≤ S.length ∧ tp + nT (S.drop i) = NT ∧ rf + nS (S.drop i) = NS ∧ Old w wr) (fun _ _ j _ => S.length - (intOf j).toNat)
  case atStart => exact ⟨0, 0, 0, rfl, rfl, rfl, Nat.zero_le _, by rw [List.drop_zero, Nat.zero_add]; exact hNT, by rw [List.drop_zero, Nat.zero_add]; exact hNS, Old.refl _⟩
  case round =>
    obtain ⟨i, tp, rf, rfl, rfl, rfl, hi, htp, hrf, ho⟩ := hrel
    have HNT := Lib.hid hNT
    have HNS := Lib.hid hNS
    clear hNT hNS
    by_cases hlt : i < S.length
    · have hi1 : (i : Int) < S.length := by omega
      obtain ⟨T, hTi⟩ : ∃ T, S[i]? = some T := ⟨_, List.getElem?_eq_getElem hlt⟩
      rw [nT_drop hTi] at htp
      rw [nS_drop hTi] at hrf
      obtain ⟨ax, cx, hcs, hTs, k1, k2⟩ := Hats.out i T hTi
      obtain rfl := Has.out (by omega)
      have c0 : ∀ V, Old wr V → V.cell? ⟨bs, os + i * 2, none⟩ = some (.slice none 0 0) := fun V o => (hcs V (ho.trans o)).1
      have c1 : ∀ V, Old wr V → V.cell? ⟨bs, os + i * 2 + 1, none⟩ = some (.slice ax T.length cx) := fun V o => (hcs V (ho.trans o)).2
      obtain ⟨bt, ot, hat, hatt⟩ := Tops.open hTs
      have Hat := Lib.hid hat
      have Hatt := Lib.hid hatt
      have htpl : (tp : Int) + T.length ≤ 4611686018427387904 := by omega
      generalize hr1 : nS (S.drop (i + 1)) = r1 at *
      generalize hr2 : nT (S.drop (i + 1)) = r2 at *
      have Hr1 := Lib.hid hr1
      have Hr2 := Lib.hid hr2
      clear hcs hTs hat hatt hTi hr1 hr2
      go_wp2_with fail
      have o1 : Old w (wr.alloc (.cells #[.slice none 0 0, .slice ax T.length cx] 52)) := ho.alloc _
      generalize wr.alloc (.cells #[.slice none 0 0, .slice ax T.length cx] 52) = w1 at *
      clear c0 c1 ho
      go_loopw [4, 27] (fun y j wr => ∃ i rf : Nat, j = .int .i64 i ∧ y = .int .i64 rf ∧ i ≤ T.length ∧ rf + (nR (T.drop i) + r1) = NS ∧ Old w wr) (fun _ j _ => T.length - (intOf j).toNat)
      case atStart => exact ⟨0, rf, rfl, rfl, Nat.zero_le _, hrf, o1⟩
      case round =>
        clear hrf o1
        obtain ⟨k, rf, rfl, rfl, hk, hrf, ho⟩ := hrel
        by_cases hlt2 : k < T.length
        · have hk1 : (k : Int) < T.length := by omega
          obtain ⟨B, hBk⟩ : ∃ B, T[k]? = some B := ⟨_, List.getElem?_eq_getElem hlt2⟩
          rw [nR_drop hBk] at hrf
          obtain ⟨ab, cb, hcs, hBs, k3, k4⟩ := Hatt.out k B hBk
          obtain rfl := Hat.out (by omega)
          have c0 : ∀ V, Old wr V → V.cell? ⟨bt, ot + k * 8, none⟩ = some (.int .i64 0) := fun V o => (hcs V (ho.trans o)).1
          have c1 : ∀ V, Old wr V → V.cell? ⟨bt, ot + k * 8 + 1, none⟩ = some (.string ⟨#[]⟩) := fun V o => (hcs V (ho.trans o)).2.1
          have c2 : ∀ V, Old wr V → V.cell? ⟨bt, ot + k * 8 + 2, none⟩ = some (.string ⟨#[]⟩) := fun V o => (hcs V (ho.trans o)).2.2.1
          have c3 : ∀ V, Old wr V → V.cell? ⟨bt, ot + k * 8 + 3, none⟩ = some (.int .i64 0) := fun V o => (hcs V (ho.trans o)).2.2.2.1
          have c4 : ∀ V, Old wr V → V.cell? ⟨bt, ot + k * 8 + 4, none⟩ = some (.slice none 0 0) := fun V o => (hcs V (ho.trans o)).2.2.2.2.1
          have c5 : ∀ V, Old wr V → V.cell? ⟨bt, ot + k * 8 + 5, none⟩ = some (.slice none 0 0) := fun V o => (hcs V (ho.trans o)).2.2.2.2.2.1
          have c6 : ∀ V, Old wr V → V.cell? ⟨bt, ot + k * 8 + 6, none⟩ = some (.slice ab B.length cb) := fun V o => (hcs V (ho.trans o)).2.2.2.2.2.2.1
          have c7 : ∀ V, Old wr V → V.cell? ⟨bt, ot + k * 8 + 7, none⟩ = some (.int .i64 0) := fun V o => (hcs V (ho.trans o)).2.2.2.2.2.2.2
          obtain ⟨bb, ob, hab, habt⟩ := Blks.open hBs
          have Hab := Lib.hid hab
          have Habt := Lib.hid habt
          generalize hr3 : nR (T.drop (k + 1)) = r3 at *
          have Hr3 := Lib.hid hr3
          clear hcs hBs hab habt hBk hr3
          go_wp2_with fail
          have o1 : Old w (wr.alloc (.cells #[.int .i64 0, .string ⟨#[]⟩, .string ⟨#[]⟩, .int .i64 0, .slice none 0 0, .slice none 0 0, .slice ab B.length cb, .int .i64 0] 57)) := ho.alloc _
          generalize wr.alloc (.cells #[.int .i64 0, .string ⟨#[]⟩, .string ⟨#[]⟩, .int .i64 0, .slice none 0 0, .slice none 0 0, .slice ab B.length cb, .int .i64 0] 57) = w2 at *
          clear c0 c1 c2 c3 c4 c5 c6 c7 ho
          go_loopw [4, 34] (fun y j wr => ∃ i rf : Nat, j = .int .i64 i ∧ y = .int .i64 rf ∧ i ≤ B.length ∧ rf + (nB (B.drop i) + r3 + r1) = NS ∧ Old w wr) (fun _ j _ => B.length - (intOf j).toNat)
          case atStart => exact ⟨0, rf, rfl, rfl, Nat.zero_le _, hrf, o1⟩
          case round =>
            clear hrf o1
            obtain ⟨n, rf, rfl, rfl, hn, hrf, ho⟩ := hrel
            by_cases hlt3 : n < B.length
            · have hn1 : (n : Int) < B.length := by omega
              obtain ⟨P, hPn⟩ : ∃ P, B[n]? = some P := ⟨_, List.getElem?_eq_getElem hlt3⟩
              rw [nB_drop hPn] at hrf
              obtain ⟨kd, ap, cp, hcs, hPs, k5, k6⟩ := Habt.out n P hPn
              obtain rfl := Hab.out (by omega)
              have c0 : ∀ V, Old wr V → V.cell? ⟨bb, ob + n * 6, none⟩ = some (.int .i64 kd) := fun V o => (hcs V (ho.trans o)).1
              have c1 : ∀ V, Old wr V → V.cell? ⟨bb, ob + n * 6 + 1, none⟩ = some (.int .i64 0) := fun V o => (hcs V (ho.trans o)).2.1
              have c2 : ∀ V, Old wr V → V.cell? ⟨bb, ob + n * 6 + 2, none⟩ = some (.string ⟨#[]⟩) := fun V o => (hcs V (ho.trans o)).2.2.1
              have c3 : ∀ V, Old wr V → V.cell? ⟨bb, ob + n * 6 + 3, none⟩ = some (.slice none 0 0) := fun V o => (hcs V (ho.trans o)).2.2.2.1
              have c4 : ∀ V, Old wr V → V.cell? ⟨bb, ob + n * 6 + 4, none⟩ = some (.slice ap P.length cp) := fun V o => (hcs V (ho.trans o)).2.2.2.2.1
              have c5 : ∀ V, Old wr V → V.cell? ⟨bb, ob + n * 6 + 5, none⟩ = some (.int .i64 0) := fun V o => (hcs V (ho.trans o)).2.2.2.2.2
              obtain ⟨bp, op, hap, hapt⟩ := Ins.open hPs
              have Hap := Lib.hid hap
              have Hapt := Lib.hid hapt
              generalize hr4 : nB (B.drop (n + 1)) = r4 at *
              have Hr4 := Lib.hid hr4
              clear hcs hPs hap hapt hPn hr4
              go_wp2_with fail
              have o1 : Old w (wr.alloc (.cells #[.int .i64 kd, .int .i64 0, .string ⟨#[]⟩, .slice none 0 0, .slice ap P.length cp, .int .i64 0] 62)) := ho.alloc _
              generalize wr.alloc (.cells #[.int .i64 kd, .int .i64 0, .string ⟨#[]⟩, .slice none 0 0, .slice ap P.length cp, .int .i64 0] 62) = w3 at *
              clear c0 c1 c2 c3 c4 c5 ho
              go_loopw [4, 41] (fun y j wr => ∃ i rf : Nat, j = .int .i64 i ∧ y = .int .i64 rf ∧ i ≤ P.length ∧ rf + (nP (P.drop i) + r4 + r3 + r1) = NS ∧ Old w wr) (fun _ j _ => P.length - (intOf j).toNat)
              case atStart => exact ⟨0, rf, rfl, rfl, Nat.zero_le _, hrf, o1⟩
              case round =>
                clear hrf o1
                obtain ⟨m, rf, rfl, rfl, hm, hrf, ho⟩ := hrel
                by_cases hlt4 : m < P.length
                · have hm1 : (m : Int) < P.length := by omega
                  obtain ⟨x, hxm⟩ : ∃ x, P[m]? = some x := ⟨_, List.getElem?_eq_getElem hlt4⟩
                  rw [nP_drop hxm] at hrf
                  have hcs := Hapt.out m x hxm
                  obtain rfl := Hap.out (by omega)
                  have c0 : ∀ V, Old wr V → V.cell? ⟨bp, op + m * 5, none⟩ = some (.int .i64 x.kind) := fun V o => (hcs V (ho.trans o)).1
                  have c1 : ∀ V, Old wr V → V.cell? ⟨bp, op + m * 5 + 1, none⟩ = some (.string ⟨#[]⟩) := fun V o => (hcs V (ho.trans o)).2.1
                  have c2 : ∀ V, Old wr V → V.cell? ⟨bp, op + m * 5 + 2, none⟩ = some (.string x.name) := fun V o => (hcs V (ho.trans o)).2.2.1
                  have c3 : ∀ V, Old wr V → V.cell? ⟨bp, op + m * 5 + 3, none⟩ = some (.int .i64 x.line) := fun V o => (hcs V (ho.trans o)).2.2.2.1
                  have c4 : ∀ V, Old wr V → V.cell? ⟨bp, op + m * 5 + 4, none⟩ = some (.int .i64 x.col) := fun V o => (hcs V (ho.trans o)).2.2.2.2
                  generalize hr5 : nP (P.drop (m + 1)) = r5 at *
                  have Hr5 := Lib.hid hr5
                  clear hcs hxm hr5
                  have hrb : refB x = (x.kind == 3 || x.kind == 4) := rfl
                  rw [hrb] at hrf
                  clear hrb
                  by_cases h3 : x.kind = 3
                  · have hb3 : (x.kind == 3) = true := by rw [beq_iff_eq]; exact h3
                    rw [hb3] at hrf
                    simp only [Bool.true_or, Bool.toNat_true] at hrf
                    have hrl : (rf : Int) ≤ 4611686018427387904 := by omega
                    clear h3
                    go_wp2_with fail
                    go_roundw
                    case rel => exact ⟨m + 1, rf + 1, by go_num, by go_num, by omega, by rw [Hr5.out]; omega, ho.alloc _⟩
                    case measure => simp [intOf]; omega
                  · have hb3 : (x.kind == 3) = false := by rw [beq_eq_false_iff_ne]; exact h3
                    rw [hb3] at hrf
                    by_cases h4 : x.kind = 4
                    · have hb4 : (x.kind == 4) = true := by rw [beq_iff_eq]; exact h4
                      rw [hb4] at hrf
                      simp only [Bool.or_true, Bool.toNat_true] at hrf
                      have hrl : (rf : Int) ≤ 4611686018427387904 := by omega
                      clear h3 h4
                      go_wp2_with fail
                      go_roundw
                      case rel => exact ⟨m + 1, rf + 1, by go_num, by go_num, by omega, by rw [Hr5.out]; omega, ho.alloc _⟩
                      case measure => simp [intOf]; omega
                    · have hb4 : (x.kind == 4) = false := by rw [beq_eq_false_iff_ne]; exact h4
                      rw [hb4] at hrf
                      simp only [Bool.or_false, Bool.toNat_false] at hrf
                      clear h3 h4
                      go_wp2_with fail
                      go_roundw
                      case rel => exact ⟨m + 1, rf, by go_num, by trivial, by omega, by rw [Hr5.out]; omega, ho.alloc _⟩
                      case measure => simp [intOf]; omega
                · have hmP : m = P.length := by omega
                  subst hmP
                  have hm1 : ¬ (P.length : Int) < P.length := by omega
                  rw [List.drop_length] at hrf
                  go_wp2_with fail
                  go_roundw
                  case rel => exact ⟨n + 1, rf, by go_num, by trivial, by omega, by rw [Hr4.out]; have h0 : nP [] = 0 := rfl; omega, ho⟩
                  case measure => simp [intOf]; omega
            · have hnB : n = B.length := by omega
              subst hnB
              have hn1 : ¬ (B.length : Int) < B.length := by omega
              rw [List.drop_length] at hrf
              go_wp2_with fail
              go_roundw
              case rel => exact ⟨k + 1, rf, by go_num, by trivial, by omega, by rw [Hr3.out]; have h0 : nB [] = 0 := rfl; omega, ho⟩
              case measure => simp [intOf]; omega
        · have hkT : k = T.length := by omega
          subst hkT
          have hk1 : ¬ (T.length : Int) < T.length := by omega
          rw [List.drop_length] at hrf
          go_wp2_with fail
          go_roundw
          case rel => exact ⟨i + 1, tp + T.length, rf, by go_num, by go_num, by trivial, by omega, by rw [Hr2.out]; omega, by rw [Hr1.out]; have h0 : nR [] = 0 := rfl; omega, ho⟩
          case measure => simp [intOf]; omega
    · have hiS : i = S.length := by omega
      subst hiS
      have hi1 : ¬ (S.length : Int) < S.length := by omega
      rw [List.drop_length] at htp hrf
      have h0 : nT [] = 0 := rfl
      have h1 : nS [] = 0 := rfl
      rw [h0, Nat.add_zero] at htp
      rw [h1, Nat.add_zero] at hrf
      subst htp
      subst hrf
      clear h0 h1
      by_cases hq1 : 1000 < tp
      · have hq : (1000 : Int) < tp := by omega
        go_wp2_with fail
        refine (FNew_any 2 0 0 0 ⟨#[]⟩ wr (by decide)).mono ?_
        rintro e w1 ⟨⟨u, rfl, hu⟩, o1⟩
        go_wp2_with fail
        go_ret
        exact ⟨⟨_, rfl, .inr ⟨.inl (by rw [HNT.out]; exact hq1), hu⟩⟩, ho.trans o1⟩
      · have hq : ¬ (1000 : Int) < tp := by omega
        by_cases hq2 : 65536 < rf
        · have hq3 : (65536 : Int) < rf := by omega
          go_wp2_with fail
          refine (FNew_any 2 0 0 0 ⟨#[]⟩ wr (by decide)).mono ?_
          rintro e w1 ⟨⟨u, rfl, hu⟩, o1⟩
          go_wp2_with fail
          go_ret
          exact ⟨⟨_, rfl, .inr ⟨.inr (by rw [HNS.out]; exact hq2), hu⟩⟩, ho.trans o1⟩
        · have hq3 : ¬ (65536 : Int) < rf := by omega
          go_wp2_with fail
          go_ret
          exact ⟨⟨_, rfl, .inl ⟨by rw [HNT.out, HNS.out]; omega, rfl⟩⟩, ho⟩
end Go.Proofs.YtkaoipegbjmlnaaDoor
