/-
  ALL REFERENCES: the document's.
-/
import Derived.Test.YtkaoipegbjmlnaaDoorZRefsX
import Derived.Test.YtkaoipegbjmlnaaDoorZRefsV
namespace Go.Proofs.YtkaoipegbjmlnaaDoor
open Go.RowKit
attribute [local go_sem] Old.refl Old.alloc Old.drew Old.setCell OldW.old

def Res.then' (r : Res) (K : List Rfr → Res) : Res := match r with | .ok l => K l | .error f => .error f
theorem goP_K {dir : List Nm} {fr src : Nat} : ∀ {ps : List Pc} {acc : List Rfr} {K : List Rfr → Res}, goP dir fr src ps acc K = Res.then' (goP dir fr src ps acc .ok) K
  | [], acc, K => rfl
  | p :: ps, acc, K => by
    unfold goP
    by_cases h : refB p = true
    · rw [if_pos h, if_pos h]
      cases judge dir p with
      | error c => rfl
      | ok k => exact goP_K
    · rw [if_neg h, if_neg h]; exact goP_K
theorem goP_split {dir : List Nm} {fr src : Nat} {ps : List Pc} {acc : List Rfr} {K : List Rfr → Res} : goP dir fr src ps acc K = Res.then' (goP dir fr src ps [] .ok) fun l => K (acc ++ l) := by
  have h := goP_acc (dir := dir) (fr := fr) (src := src) (ps := ps) (a := acc) (b := []) (K := K)
  rw [List.append_nil] at h
  rw [h, goP_K]
theorem goP_len {dir : List Nm} {fr src : Nat} : ∀ {ps : List Pc} {acc l : List Rfr}, goP dir fr src ps acc .ok = .ok l → l.length ≤ acc.length + nP ps
  | [], acc, l, h => by
    have h : (.ok acc : Res) = .ok l := h
    cases h
    exact Nat.le_add_right _ _
  | p :: ps, acc, l, h => by
    unfold goP at h
    unfold nP
    rw [List.countP_cons]
    by_cases h2 : refB p = true
    · rw [if_pos h2] at h
      rw [if_pos h2]
      cases hj : judge dir p with
      | error c => rw [hj] at h; cases h
      | ok k =>
        rw [hj] at h
        have := goP_len h
        unfold nP at this
        simp at this
        omega
    · rw [if_neg h2] at h
      have := goP_len h
      unfold nP at this
      omega
theorem judge_code {dir : List Nm} {p : Pc} {c : Int} (h : judge dir p = .error c) : ¬ c = 0 := by
  rw [judge_fnd] at h
  split at h
  · cases h; decide
  · split at h
    · cases h
    · cases h; decide
theorem goP_err {dir : List Nm} {fr src : Nat} {ps : List Pc} {acc : List Rfr} {f : Flt} (h : goP dir fr src ps acc .ok = .error f) : ¬ f.code = 0 :=
  goP_code (Q := fun f => ¬ f.code = 0) (fun p c hj _ _ _ => judge_code hj) (fun a f h => by cases h) f h
theorem goB_at {dir : List Nm} {fr src j : Nat} {B : List (List Pc)} {P : List Pc} (h : B[j]? = some P) (acc : List Rfr) (K : List Rfr → Res) : goB dir fr src (B.drop j) acc K = goP dir fr src P acc fun a => goB dir fr src (B.drop (j + 1)) a K := by
  rw [drop_at h]; rfl
theorem goT_at {dir : List Nm} {fr src k : Nat} {T : List (List (List Pc))} {B : List (List Pc)} (h : T[k]? = some B) (acc : List Rfr) (K : Nat → List Rfr → Res) : goT dir src (T.drop k) fr acc K = goB dir fr src B acc fun a => goT dir src (T.drop (k + 1)) (fr + 1) a K := by
  rw [drop_at h]; rfl
theorem goS_at {dir : List Nm} {fr i : Nat} {S : List (List (List (List Pc)))} {T : List (List (List Pc))} (h : S[i]? = some T) (acc : List Rfr) : goS dir (S.drop i) i fr acc = goT dir i T fr acc fun fr a => goS dir (S.drop (i + 1)) (i + 1) fr a := by
  rw [drop_at h]; rfl
set_option maxRecDepth 100000 in
set_option maxHeartbeats 6400000 in
theorem RRefs_any (v : Value) (S : List (List (List (List Pc)))) (dir : List Nm) (vd : Value) (w : World) (hv : Srcs w v S) (hd : Recs nmE w vd dir) (hT : nT S ≤ 4611686018427387904) (hS : nS S ≤ 4611686018427387904) (hP : ∀ T ∈ S, ∀ B ∈ T, ∀ P ∈ B, P.length ≤ 2199023255552) :
    Calls Tryd.prog 7 #[v, vd] w fun e w' => RetR w w' (refsR dir S) e ∧ Old w w' := by
  have HC := Lib.hid (fun V (o : Old w V) => counts8_any v S V (hv.old o) hT hS)
  have HB := Lib.hid (fun kd ap cp P fr src V (o : Old w V) hp h1 h2 h3 => block_any kd ap cp P dir vd fr src V hp (hd.old o) h1 h2 h3)
  have HPl := Lib.hid hP
  have HR0 := Lib.hid (show refsR dir S = if 1000 < nT S ∨ 65536 < nS S then .error ⟨2, 0, 0, 0, ⟨#[]⟩⟩ else goS dir (S.drop 0) 0 0 [] from rfl)
  obtain ⟨a, cap, rfl, hc1, hc2⟩ := hv.form
  obtain ⟨bs, os, has, hats⟩ := Srcs.open hv
  have Has := Lib.hid has
  have Hats := Lib.hid hats
  have hnt : nT S = nT (S.drop 0) := rfl
  have hns : nS S = nS (S.drop 0) := rfl
  have Hnt := Lib.hid hnt
  have Hns := Lib.hid hns
  clear hd hv has hats hP hnt hns
  generalize refsR dir S = R at *
  generalize hNT : nT S = NT at *
  generalize hNS : nS S = NS at *
  clear hNT hNS
  go_enter Tryd.func7, Tryd.ntmps7
  go_wp2_with fail
  refine (HC.out _ ((Old.refl w).alloc _)).mono ?_
  rintro e w2 ⟨rfl, o1⟩
  have o2 : Old w w2 := ((Old.refl w).alloc _).trans o1
  have hbw : w.heap.size < w2.heap.size := by have := o1.size; simp [go_sem] at this; omega
  have x0 := later (o1.cell (p := ⟨w.heap.size, 0, none⟩) (v := .int .i64 0) (by simp [go_sem]))
  have x1 := later (o1.cell (p := ⟨w.heap.size, 1, none⟩) (v := .int .i64 0) (by simp [go_sem]))
  have x2 := later (o1.cell (p := ⟨w.heap.size, 2, none⟩) (v := .int .i64 0) (by simp [go_sem]))
  have x3 := later (o1.cell (p := ⟨w.heap.size, 3, none⟩) (v := .int .i64 0) (by simp [go_sem]))
  have x4 := later (o1.cell (p := ⟨w.heap.size, 4, none⟩) (v := .string ⟨#[]⟩) (by simp [go_sem]))
  have hf : ∀ j, w2.frozen? ⟨w.heap.size, j, none⟩ = false := fun j => by
    rw [frozen_old o1 (by simp [go_sem])]
    simp [go_sem]
  have X0 := Lib.hid x0
  have X1 := Lib.hid x1
  have X2 := Lib.hid x2
  have X3 := Lib.hid x3
  have X4 := Lib.hid x4
  have XF := Lib.hid hf
  by_cases hbig : 1000 < NT ∨ 65536 < NS
  · have HR := Lib.hid (HR0.out.trans (if_pos hbig))
    have y0 := x0 w2 (Old.refl _)
    have y1 := x1 w2 (Old.refl _)
    have y2 := x2 w2 (Old.refl _)
    have y3 := x3 w2 (Old.refl _)
    have y4 := x4 w2 (Old.refl _)
    by_cases hq1 : 1000 < NT
    · have hq : (1000 : Int) < NT := by omega
      clear hbig hq1 x0 x1 x2 x3 x4
      go_wp2_with fail
      refine bodyPost_ret (v := .tuple #[.slice none 0 0, .agg (wrgC ⟨2, 0, 0, 0, ⟨#[]⟩⟩)]) (by simp [results, Tryd.results7, go_sem, y0, y1, y2, y3, y4, wrgC]) rfl ⟨.inr ⟨⟨2, 0, 0, 0, ⟨#[]⟩⟩, HR.out, rfl⟩, ?_⟩
      exact ((((o2.setCell (Nat.le_refl _) _).setCell (Nat.le_refl _) _).setCell (Nat.le_refl _) _).setCell (Nat.le_refl _) _).setCell (Nat.le_refl _) _
    · have hq : ¬ (1000 : Int) < NT := by omega
      have hq3 : (65536 : Int) < NS := by omega
      clear hbig hq1 x0 x1 x2 x3 x4
      go_wp2_with fail
      refine bodyPost_ret (v := .tuple #[.slice none 0 0, .agg (wrgC ⟨2, 0, 0, 0, ⟨#[]⟩⟩)]) (by simp [results, Tryd.results7, go_sem, y0, y1, y2, y3, y4, wrgC]) rfl ⟨.inr ⟨⟨2, 0, 0, 0, ⟨#[]⟩⟩, HR.out, rfl⟩, ?_⟩
      exact ((((o2.setCell (Nat.le_refl _) _).setCell (Nat.le_refl _) _).setCell (Nat.le_refl _) _).setCell (Nat.le_refl _) _).setCell (Nat.le_refl _) _
  · have HR := Lib.hid (HR0.out.trans (if_neg hbig))
    have hq : ¬ (1000 : Int) < NT := by omega
    have hq3 : ¬ (65536 : Int) < NS := by omega
    clear HR0 HC x0 x1 x2 x3 x4 hf o1
    go_wp2_with fail
    go_loopw [8, 9, 10] (fun x y j wr => ∃ (i fr : Nat) (acc : List Rfr), j = .int .i64 i ∧ y = .int .i64 fr ∧ i ≤ S.length ∧ goS dir (S.drop i) i fr acc = R ∧ acc.length + nS (S.drop i) ≤ 65536 ∧ fr + nT (S.drop i) ≤ 1000 ∧ OwnS rfE 43 w2 wr x acc ∧ Old w2 wr) (fun _ _ j _ => S.length - (intOf j).toNat)
    case atStart => exact ⟨0, 0, [], rfl, rfl, Nat.zero_le _, HR.out.symm, by rw [← Hns.out]; simp; omega, by rw [← Hnt.out]; omega, OwnS.nil _ _ _ _, Old.refl _⟩
    case round =>
      clear HR hbig hq hq3
      obtain ⟨i, fr, acc, rfl, rfl, hi, hR, hacc, hfr, hown, ho⟩ := hrel
      by_cases hlt : i < S.length
      · have hi1 : (i : Int) < S.length := by omega
        obtain ⟨T, hTi⟩ : ∃ T, S[i]? = some T := ⟨_, List.getElem?_eq_getElem hlt⟩
        rw [goS_at hTi] at hR
        rw [nS_drop hTi] at hacc
        rw [nT_drop hTi] at hfr
        have HPT := Lib.hid (HPl.out T (List.mem_of_getElem? hTi))
        obtain ⟨ax, cx, hcs, hTs, k1, k2⟩ := Hats.out i T hTi
        obtain rfl := Has.out (by omega)
        have S1 : Hid (∀ V, Old w2 V → V.cell? ⟨bs, os + i * 2 + 1, none⟩ = some (.slice ax T.length cx)) := fun V o => (hcs V (o2.trans o)).2
        obtain ⟨bt, ot, hat, hatt⟩ := Tops.open hTs
        have Hat := Lib.hid hat
        have Hatt := Lib.hid hatt
        generalize hr1 : nS (S.drop (i + 1)) = r1 at *
        generalize hr2 : nT (S.drop (i + 1)) = r2 at *
        generalize hK2 : (fun fr a => goS dir (S.drop (i + 1)) (i + 1) fr a) = K2 at *
        have Hr1 := Lib.hid hr1
        have Hr2 := Lib.hid hr2
        have HK2 : Hid (∀ fr a, K2 fr a = goS dir (S.drop (i + 1)) (i + 1) fr a) := fun fr a => by rw [← hK2]
        have HR := Lib.hid hR
        have Hown := Lib.hid hown
        clear hcs hTs hat hatt hTi hr1 hr2 hK2 hR hown
        go_wp2_with fail
        go_loopw [8, 9, 11] (fun x y j wr => ∃ (k fr : Nat) (acc : List Rfr), j = .int .i64 k ∧ y = .int .i64 fr ∧ k ≤ T.length ∧ goT dir i (T.drop k) fr acc K2 = R ∧ acc.length + (nR (T.drop k) + r1) ≤ 65536 ∧ fr + (T.length - k + r2) ≤ 1000 ∧ OwnS rfE 43 w2 wr x acc ∧ Old w2 wr) (fun _ _ j _ => T.length - (intOf j).toNat)
        case atStart => exact ⟨0, fr, acc, rfl, rfl, Nat.zero_le _, HR.out, hacc, by omega, Hown.out, ho⟩
        case round =>
          clear HR hacc hfr Hown ho
          obtain ⟨k, fr, acc, rfl, rfl, hk, hR, hacc, hfr, hown, ho⟩ := hrel
          have s1 : ∀ V, Old wr V → V.cell? ⟨bs, os + i * 2 + 1, none⟩ = some (.slice ax T.length cx) := fun V o => S1.out V (ho.trans o)
          by_cases hlt2 : k < T.length
          · have hk1 : (k : Int) < T.length := by omega
            obtain ⟨B, hBk⟩ : ∃ B, T[k]? = some B := ⟨_, List.getElem?_eq_getElem hlt2⟩
            rw [goT_at hBk] at hR
            rw [nR_drop hBk] at hacc
            have HPB := Lib.hid (HPT.out B (List.mem_of_getElem? hBk))
            obtain ⟨ab, cb, hcs, hBs, k3, k4⟩ := Hatt.out k B hBk
            obtain rfl := Hat.out (by omega)
            have T6 : Hid (∀ V, Old w2 V → V.cell? ⟨bt, ot + k * 8 + 6, none⟩ = some (.slice ab B.length cb)) := fun V o => (hcs V (o2.trans o)).2.2.2.2.2.2.1
            have t6 : ∀ V, Old wr V → V.cell? ⟨bt, ot + k * 8 + 6, none⟩ = some (.slice ab B.length cb) := fun V o => T6.out V (ho.trans o)
            obtain ⟨bb, ob, hab, habt⟩ := Blks.open hBs
            have Hab := Lib.hid hab
            have Habt := Lib.hid habt
            generalize hr3 : nR (T.drop (k + 1)) = r3 at *
            generalize hK3 : (fun a => goT dir i (T.drop (k + 1)) (fr + 1) a K2) = K3 at *
            have Hr3 := Lib.hid hr3
            have HK3 : Hid (∀ a, K3 a = goT dir i (T.drop (k + 1)) (fr + 1) a K2) := fun a => by rw [← hK3]
            have HR := Lib.hid hR
            have Hown := Lib.hid hown
            clear hcs hBs hab habt hBk hr3 hK3 hR hown
            go_wp2_with fail
            go_loopw [8, 13] (fun x j wr => ∃ (n : Nat) (acc : List Rfr), j = .int .i64 n ∧ n ≤ B.length ∧ goB dir fr i (B.drop n) acc K3 = R ∧ acc.length + (nB (B.drop n) + r3 + r1) ≤ 65536 ∧ OwnS rfE 43 w2 wr x acc ∧ Old w2 wr) (fun _ j _ => B.length - (intOf j).toNat)
            case atStart => exact ⟨0, acc, rfl, Nat.zero_le _, HR.out, hacc, Hown.out, ho⟩
            case round =>
              clear HR hacc Hown ho s1 t6
              obtain ⟨n, acc, rfl, hn, hR, hacc, hown, ho⟩ := hrel
              by_cases hlt3 : n < B.length
              · have hn1 : (n : Int) < B.length := by omega
                obtain ⟨P, hPn⟩ : ∃ P, B[n]? = some P := ⟨_, List.getElem?_eq_getElem hlt3⟩
                rw [goB_at hPn, goP_split] at hR
                rw [nB_drop hPn] at hacc
                have hPl := HPB.out P (List.mem_of_getElem? hPn)
                obtain ⟨kd, ap, cp, hcs, hPs, k5, k6⟩ := Habt.out n P hPn
                obtain rfl := Hab.out (by omega)
                have c0 : ∀ V, Old wr V → V.cell? ⟨bb, ob + n * 6, none⟩ = some (.int .i64 kd) := fun V o => (hcs V ((o2.trans ho).trans o)).1
                have c1 : ∀ V, Old wr V → V.cell? ⟨bb, ob + n * 6 + 1, none⟩ = some (.int .i64 0) := fun V o => (hcs V ((o2.trans ho).trans o)).2.1
                have c2 : ∀ V, Old wr V → V.cell? ⟨bb, ob + n * 6 + 2, none⟩ = some (.string ⟨#[]⟩) := fun V o => (hcs V ((o2.trans ho).trans o)).2.2.1
                have c3 : ∀ V, Old wr V → V.cell? ⟨bb, ob + n * 6 + 3, none⟩ = some (.slice none 0 0) := fun V o => (hcs V ((o2.trans ho).trans o)).2.2.2.1
                have c4 : ∀ V, Old wr V → V.cell? ⟨bb, ob + n * 6 + 4, none⟩ = some (.slice ap P.length cp) := fun V o => (hcs V ((o2.trans ho).trans o)).2.2.2.2.1
                have c5 : ∀ V, Old wr V → V.cell? ⟨bb, ob + n * 6 + 5, none⟩ = some (.int .i64 0) := fun V o => (hcs V ((o2.trans ho).trans o)).2.2.2.2.2
                have HBl := Lib.hid (HB.out kd ap cp P fr i wr (o2.trans ho) (hPs.old (o2.trans ho)) hPl k5 k6)
                generalize hr4 : nB (B.drop (n + 1)) = r4 at *
                have Hr4 := Lib.hid hr4
                have Hlen := Lib.hid (fun l h => goP_len (dir := dir) (fr := fr) (src := i) (ps := P) (acc := []) (l := l) h)
                have Herr := Lib.hid (fun f h => goP_err (dir := dir) (fr := fr) (src := i) (ps := P) (acc := []) (f := f) h)
                have Hown := Lib.hid hown
                have HR := Lib.hid hR
                generalize hG : goP dir fr i P [] .ok = G at *
                clear hcs hPs hPn hr4 hown hR hG
                go_wp2_with fail
                refine HBl.out.mono ?_
                rintro e w3 ⟨⟨l, u, rfl, rfl, hu⟩ | ⟨f, rfl, rfl⟩, o3⟩
                · have hll := Hlen.out l rfl
                  have Hu := Lib.hid hu
                  have HR2 := Lib.hid (show goB dir fr i (B.drop (n + 1)) (acc ++ l) K3 = R from HR.out)
                  have oR := ho.trans o3
                  obtain ⟨au, cu, rfl, _, _⟩ := OwnS.form hu
                  have hown3 := Hown.out.old o3
                  unfold wrgC noF
                  clear hu HR Hlen Herr c0 c1 c2 c3 c4 c5
                  simp only [List.length_nil, Nat.zero_add] at hll
                  go_wp2_with (at_builtin; go_loud (refine wpList_append_recs (c := rfE) (w0 := w2) rfl _ _ 24 rfl 43 Tryd.underlying24 _ infoRf rfl (Nat.zero_lt_succ 5) _ acc l rfl (hown3.alloc _) _ rfl (Hu.out.recs.old ((Old.refl _).alloc _)) (by omega) (by omega) (oR.alloc _) ?_); intro v5 w5 hown5 ho5 _)
                  go_roundw
                  case rel => exact ⟨n + 1, acc ++ l, by go_num, by omega, HR2.out, by rw [List.length_append, Hr4.out]; omega, hown5, ho5⟩
                  case measure => simp [intOf]; omega
                · have hfc := Herr.out f rfl
                  have hfb : (f.code != 0) = true := by rw [bne_iff_ne]; exact hfc
                  have HR2 := Lib.hid (show (.error f : Res) = R from HR.out)
                  have oR := ho.trans o3
                  have z0 := fun V (o : Old w3 V) => X0.out V (oR.trans o)
                  have z1 := fun V (o : Old w3 V) => X1.out V (oR.trans o)
                  have z2 := fun V (o : Old w3 V) => X2.out V (oR.trans o)
                  have z3 := fun V (o : Old w3 V) => X3.out V (oR.trans o)
                  have z4 := fun V (o : Old w3 V) => X4.out V (oR.trans o)
                  have zf : ∀ j V, Old w3 V → V.frozen? ⟨w.heap.size, j, none⟩ = false := fun j V o => by rw [frozen_old (oR.trans o) hbw]; exact XF.out j
                  unfold wrgC
                  clear HR Hlen Herr c0 c1 c2 c3 c4 c5 hfc
                  go_wp2_with fail
                  have oz : Old w3 (w3.alloc (.cells #[.int .i64 f.code, .int .i64 f.src, .int .i64 f.line, .int .i64 f.col, .string f.word] 32)) := (Old.refl w3).alloc _
                  have q0 := later (w := w3.alloc (.cells #[.int .i64 f.code, .int .i64 f.src, .int .i64 f.line, .int .i64 f.col, .string f.word] 32)) (p := ⟨w3.heap.size, 0, none⟩) (v := .int .i64 f.code) (by simp [go_sem])
                  have q1 := later (w := w3.alloc (.cells #[.int .i64 f.code, .int .i64 f.src, .int .i64 f.line, .int .i64 f.col, .string f.word] 32)) (p := ⟨w3.heap.size, 1, none⟩) (v := .int .i64 f.src) (by simp [go_sem])
                  have q2 := later (w := w3.alloc (.cells #[.int .i64 f.code, .int .i64 f.src, .int .i64 f.line, .int .i64 f.col, .string f.word] 32)) (p := ⟨w3.heap.size, 2, none⟩) (v := .int .i64 f.line) (by simp [go_sem])
                  have q3 := later (w := w3.alloc (.cells #[.int .i64 f.code, .int .i64 f.src, .int .i64 f.line, .int .i64 f.col, .string f.word] 32)) (p := ⟨w3.heap.size, 3, none⟩) (v := .int .i64 f.col) (by simp [go_sem])
                  have q4 := later (w := w3.alloc (.cells #[.int .i64 f.code, .int .i64 f.src, .int .i64 f.line, .int .i64 f.col, .string f.word] 32)) (p := ⟨w3.heap.size, 4, none⟩) (v := .string f.word) (by simp [go_sem])
                  have y0 := z0 _ oz
                  have y1 := z1 _ oz
                  have y2 := z2 _ oz
                  have y3 := z3 _ oz
                  have y4 := z4 _ oz
                  have yf := fun j => zf j _ oz
                  have oR4 : Old w2 (w3.alloc (.cells #[.int .i64 f.code, .int .i64 f.src, .int .i64 f.line, .int .i64 f.col, .string f.word] 32)) := oR.trans oz
                  generalize w3.alloc (.cells #[.int .i64 f.code, .int .i64 f.src, .int .i64 f.line, .int .i64 f.col, .string f.word] 32) = w4 at *
                  clear z0 z1 z2 z3 z4 zf
                  refine wp_region_still_tail 2 (by kernel_rfl) (by kernel_rfl) ?_
                  simp only [List.take_succ_cons, List.take_zero, List.drop_succ_cons, List.drop_zero]
                  repeat still_step
                  refine wpStill_nil ?_
                  go_wp2_with fail
                  refine bodyPost_ret (v := .tuple #[.slice none 0 0, .agg (wrgC f)]) (by simp [results, Tryd.results7, go_sem, y0, y1, y2, y3, y4, wrgC]) rfl ⟨.inr ⟨f, HR2.out.symm, rfl⟩, ?_⟩
                  exact ((((((o2.trans oR4).setCell (Nat.le_refl _) _).setCell (Nat.le_refl _) _).setCell (Nat.le_refl _) _).setCell (Nat.le_refl _) _).setCell (Nat.le_refl _) _).drew
              · have hnB : n = B.length := by omega
                subst hnB
                have hn1 : ¬ (B.length : Int) < B.length := by omega
                rw [List.drop_length] at hacc hR
                have HR := Lib.hid hR
                clear hR
                go_wp2_with fail
                go_roundw
                case rel => exact ⟨k + 1, fr + 1, acc, by go_num, by go_num, by omega, by rw [← HK3.out]; exact HR.out, by rw [Hr3.out]; have h0 : nB [] = 0 := rfl; omega, by omega, hown, ho⟩
                case measure => simp [intOf]; omega
          · have hkT : k = T.length := by omega
            subst hkT
            have hk1 : ¬ (T.length : Int) < T.length := by omega
            rw [List.drop_length] at hacc hR
            have HR := Lib.hid hR
            clear hR
            go_wp2_with fail
            go_roundw
            case rel => exact ⟨i + 1, fr, acc, by go_num, by first | rfl | trivial, by omega, by rw [← HK2.out]; exact HR.out, by rw [Hr1.out]; have h0 : nR [] = 0 := rfl; omega, by rw [Hr2.out]; omega, hown, ho⟩
            case measure => simp [intOf]; omega
      · have hiS : i = S.length := by omega
        subst hiS
        have hi1 : ¬ (S.length : Int) < S.length := by omega
        rw [List.drop_length] at hR
        have HR := Lib.hid hR
        have Hown := Lib.hid hown
        have y0 := X0.out wr ho
        have y1 := X1.out wr ho
        have y2 := X2.out wr ho
        have y3 := X3.out wr ho
        have y4 := X4.out wr ho
        have zf : ∀ j, wr.frozen? ⟨w.heap.size, j, none⟩ = false := fun j => by rw [frozen_old ho hbw]; exact XF.out j
        clear hR hown
        go_wp2_with fail
        refine bodyPost_ret (v := .tuple #[u8, .agg (wrgC noF)]) (by simp [results, Tryd.results7, go_sem, y0, y1, y2, y3, y4, wrgC, noF]) rfl ⟨.inl ⟨acc, u8, HR.out.symm, rfl, ?_⟩, ?_⟩
        · exact (((((Hown.out.set_low hbw).set_low hbw).set_low hbw).set_low hbw).set_low hbw).lower o2.size
        · exact (((((o2.trans ho).setCell (Nat.le_refl _) _).setCell (Nat.le_refl _) _).setCell (Nat.le_refl _) _).setCell (Nat.le_refl _) _).setCell (Nat.le_refl _) _
end Go.Proofs.YtkaoipegbjmlnaaDoor
