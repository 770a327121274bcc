/-
  ALL REFERENCES: the program's.
-/
import Derived.Test.YtkaoipegbjmlnaaDoorZRefsY
namespace Go.Proofs.YtkaoipegbjmlnaaDoor
open Go.RowKit
attribute [local go_sem] Old.refl Old.alloc Old.drew Old.setCell OldW.old

/-- references, or the fault as an error -/
def RetP (w w' : World) (R : Res) (e : Ending) : Prop :=
  (∃ l u, R = .ok l ∧ e = .returned (.tuple #[u, .nilIface]) ∧ OwnS rfE 43 w w' u l) ∨ ∃ f u, R = .error f ∧ ¬ f.code = 0 ∧ e = .returned (.tuple #[.slice none 0 0, u]) ∧ IsErr w' u f.code f.src f.line f.col f.word
theorem idx_put {dir : List Nm} {i : Nat} {d : Nm} (hd : dir[i]? = some d) (h : idx (dir.take i) d.norm = none) : (fun q => if q = d.norm then some i else idx (dir.take i) q) = idx (dir.take (i + 1)) := by
  have hi : i < dir.length := (List.getElem?_eq_some_iff.1 hd).1
  have hl : (dir.take i).length = i := by rw [List.length_take]; omega
  funext q
  rw [take_at' hd, idx_snoc, hl]
  by_cases e : q = d.norm
  · subst e
    rw [if_pos rfl, h]
    dsimp only
    rw [if_pos rfl]
  · rw [if_neg e]
    cases idx (dir.take i) q with
    | some k => rfl
    | none =>
      dsimp only
      rw [if_neg (fun h => e h.symm)]
theorem idx_keep {dir : List Nm} {i k : Nat} {d : Nm} (hd : dir[i]? = some d) (h : idx (dir.take i) d.norm = some k) : idx (dir.take i) = idx (dir.take (i + 1)) := by
  funext q
  rw [take_at' hd, idx_snoc]
  cases hq : idx (dir.take i) q with
  | some k => rfl
  | none =>
    dsimp only
    rw [if_neg (fun e => by rw [e, hq] at h; cases h)]
set_option maxRecDepth 100000 in
set_option maxHeartbeats 6400000 in
theorem Refs_any (v : Value) (S : List (List (List (List Pc)))) (dir : List Nm) (vd : Value) (w : World) (hTb : Tabs w) (hv : Srcs w v S) (hd : Recs nmE w vd dir) (hT : nT S ≤ 4611686018427387904) (hS : nS S ≤ 4611686018427387904) (hP : ∀ T ∈ S, ∀ B ∈ T, ∀ P ∈ B, P.length ≤ 2199023255552)
    (hdl : dir.length ≤ 4611686018427387904) (hdn : ∀ d ∈ dir, d.norm.size ≤ 9223372036854775807) :
    Calls Tryd.prog 5 #[v, vd] w fun e w' => RetP w w' (refsR dir S) e ∧ Old w w' := by
  have HFw := Lib.hid (few_any v S w hv hT hS)
  have HPl := Lib.hid hP
  have HR0 := Lib.hid (show refsR dir S = if 1000 < nT S ∨ 65536 < nS S then .error ⟨2, 0, 0, 0, ⟨#[]⟩⟩ else goS dir (S.drop 0) 0 0 [] from rfl)
  have Hdn := Lib.hid hdn
  have HTb := Lib.hid hTb
  have HRf := Lib.hid (fun mb nn p V (o : Old w V) hm => refer_any mb nn dir vd p V (hTb.old o) hm (hd.old o) hdl)
  obtain ⟨a, cap, rfl, hc1, hc2⟩ := hv.form
  obtain ⟨bs, os, has, hats⟩ := Srcs.open hv
  have Has := Lib.hid has
  have Hats := Lib.hid hats
  obtain ⟨ad, cd, rfl, hd1, hd2⟩ := hd.form
  obtain ⟨bd, od, had, hatd⟩ := hd.nm
  have Had := Lib.hid had
  have Hatd := Lib.hid hatd
  have hnt : nT S = nT (S.drop 0) := rfl
  have hns : nS S = nS (S.drop 0) := rfl
  have Hnt := Lib.hid hnt
  have Hns := Lib.hid hns
  clear hd hv has hats hP hnt hns had hatd hTb hdn
  generalize refsR dir S = R at *
  generalize hNT : nT S = NT at *
  generalize hNS : nS S = NS at *
  clear hNT hNS
  have hmm := @run_makeMap Tryd.prog
  go_enter Tryd.func5, Tryd.ntmps5
  go_wp2_with fail
  refine HFw.out.mono ?_
  rintro e w1 ⟨⟨u, rfl, ⟨hsm, rfl⟩ | ⟨hbig, hu⟩⟩, o1⟩
  rotate_left
  · have HR := Lib.hid (HR0.out.trans (if_pos hbig))
    have hu2 := hu
    obtain ⟨g, rfl, _⟩ := hu2
    have Hu := Lib.hid hu
    clear hu hbig hT hS
    go_wp2_with fail
    go_ret2
    exact ⟨.inr ⟨⟨2, 0, 0, 0, ⟨#[]⟩⟩, _, HR.out, by decide, rfl, Hu.out⟩, o1⟩
  · have HR := Lib.hid (HR0.out.trans (if_neg hsm))
    have Hsm := Lib.hid hsm
    clear HR0 HFw hsm hT hS
    go_wp2_with fail
    go_loopw [32] (fun j wr => ∃ i nn : Nat, j = .int .i64 i ∧ i ≤ dir.length ∧ nn ≤ i ∧ MapTO Tryd.prog 9 3 wr w1.heap.size nn (idx (dir.take i)) ∧ Old w1 wr) (fun j _ => dir.length - (intOf j).toNat)
    case atStart => exact ⟨0, 0, rfl, Nat.zero_le _, Nat.le_refl _, MapTO.made _ _ _ _, (Old.refl w1).alloc _⟩
    case round =>
      obtain ⟨i, nn, rfl, hi, hnn, hm, ho⟩ := hrel
      have HM := Lib.hid hm
      clear hm
      by_cases hlt : i < dir.length
      · have hi1 : (i : Int) < dir.length := by omega
        obtain ⟨d, hdi⟩ : ∃ d, dir[i]? = some d := ⟨_, List.getElem?_eq_getElem hlt⟩
        have hcs := fun V (o : Old wr V) => Hatd.out i d hdi V ((o1.trans ho).trans o)
        obtain rfl := Had.out (by omega)
        have hds := Hdn.out d (List.mem_of_getElem? hdi)
        have c0 : ∀ V, Old wr V → V.cell? ⟨bd, od + i * 6, none⟩ = some (.string d.name) := fun V o => (hcs V o).1
        have c1 : ∀ V, Old wr V → V.cell? ⟨bd, od + i * 6 + 1, none⟩ = some (.string d.norm) := fun V o => (hcs V o).2.1
        have c2 : ∀ V, Old wr V → V.cell? ⟨bd, od + i * 6 + 2, none⟩ = some (.int .i64 d.src) := fun V o => (hcs V o).2.2.1
        have c3 : ∀ V, Old wr V → V.cell? ⟨bd, od + i * 6 + 3, none⟩ = some (.int .i64 d.at') := fun V o => (hcs V o).2.2.2.1
        have c4 : ∀ V, Old wr V → V.cell? ⟨bd, od + i * 6 + 4, none⟩ = some (.int .i64 d.kind) := fun V o => (hcs V o).2.2.2.2.1
        have c5 : ∀ V, Old wr V → V.cell? ⟨bd, od + i * 6 + 5, none⟩ = some (.int .i64 d.line) := fun V o => (hcs V o).2.2.2.2.2
        have oa : Old wr (wr.alloc (.cells #[.string d.name, .string d.norm, .int .i64 d.src, .int .i64 d.at', .int .i64 d.kind, .int .i64 d.line] 45)) := (Old.refl wr).alloc _
        have HM1 := Lib.hid (HM.out.old oa)
        cases hF : idx (dir.take i) d.norm with
        | some k =>
          have HF := Lib.hid hF
          have Hk := Lib.hid (idx_keep hdi hF)
          clear hF hdi hcs
          go_wp2_with (refine wpList_lookup_mto_ok rfl _ _ _ rfl _ _ Tryd.underlying9 Tryd.underlying47 Tryd.underlying3 zeroInt w1.heap.size _ (idx (dir.take i)) rfl HM1.out d.norm rfl (by omega) (some k) HF.out ?_)
          go_roundw
          case rel => exact ⟨i + 1, nn, by go_num, by omega, by omega, by rw [← Hk.out]; exact HM1.out, ho.alloc _⟩
          case measure => simp [intOf]; omega
        | none =>
          have HF := Lib.hid hF
          have Hk := Lib.hid (idx_put hdi hF)
          clear hF hdi hcs
          go_wp2_with (first
            | (refine wpList_lookup_mto_ok rfl _ _ _ rfl _ _ Tryd.underlying9 Tryd.underlying47 Tryd.underlying3 zeroInt w1.heap.size _ (idx (dir.take i)) rfl HM1.out d.norm rfl (by omega) none HF.out ?_)
            | (refine wpList_update_mto (w0 := w1) rfl _ _ _ _ rfl _ _ Tryd.underlying9 Tryd.underlying47 Tryd.underlying3 w1.heap.size _ (idx (dir.take i)) rfl HM1.out (by omega) d.norm i rfl (by omega) rfl ⟨by omega, by omega⟩ (ho.alloc _) (Nat.le_refl _) ?_; intro w3 hM3 ho3 hg3))
          go_roundw
          case rel => exact ⟨i + 1, nn + 1, by go_num, by omega, by omega, by rw [← Hk.out]; exact hM3, ho3⟩
          case measure => simp [intOf]; omega
      · have hiD : i = dir.length := by omega
        subst hiD
        have hi1 : ¬ (dir.length : Int) < dir.length := by omega
        rw [List.take_length] at HM
        have o2 := o1.trans ho
        have HRf2 := Lib.hid (fun p V (o : Old wr V) => HRf.out w1.heap.size nn p V (o2.trans o) (HM.out.old o))
        clear HM HRf Hatd Had Hdn
        go_wp2_with fail
        generalize wr = w2 at *
        go_loopw [12, 13, 53] (fun x y j wr => ∃ (i fr : Nat) (acc : List Rfr), j = .int .i64 i ∧ y = .int .i64 fr ∧ i ≤ S.length ∧ goS dir (S.drop i) i fr acc = R ∧ acc.length + nS (S.drop i) ≤ 65536 ∧ fr + nT (S.drop i) ≤ 1000 ∧ OwnS rfE 43 w2 wr x acc ∧ Old w2 wr) (fun _ _ j _ => S.length - (intOf j).toNat)
        case atStart =>
          have h := Hsm.out
          exact ⟨0, 0, [], rfl, rfl, Nat.zero_le _, HR.out.symm, by rw [← Hns.out]; simp; omega, by rw [← Hnt.out]; omega, OwnS.nil _ _ _ _, Old.refl _⟩
        case round =>
          clear HR Hsm ho
          obtain ⟨i, fr, acc, rfl, rfl, hi, hR, hacc, hfr, hown, ho⟩ := hrel
          by_cases hlt : i < S.length
          · have hi1 : (i : Int) < S.length := by omega
            obtain ⟨T, hTi⟩ : ∃ T, S[i]? = some T := ⟨_, List.getElem?_eq_getElem hlt⟩
            rw [goS_at hTi] at hR
            rw [nS_drop hTi] at hacc
            rw [nT_drop hTi] at hfr
            have HPT := Lib.hid (HPl.out T (List.mem_of_getElem? hTi))
            obtain ⟨ax, cx, hcs, hTs, k1, k2⟩ := Hats.out i T hTi
            obtain rfl := Has.out (by omega)
            have s0 : ∀ V, Old wr V → V.cell? ⟨bs, os + i * 2, none⟩ = some (.slice none 0 0) := fun V o => (hcs V ((o2.trans ho).trans o)).1
            have s1 : ∀ V, Old wr V → V.cell? ⟨bs, os + i * 2 + 1, none⟩ = some (.slice ax T.length cx) := fun V o => (hcs V ((o2.trans ho).trans o)).2
            obtain ⟨bt, ot, hat, hatt⟩ := Tops.open hTs
            have Hat := Lib.hid hat
            have Hatt := Lib.hid hatt
            generalize hr1 : nS (S.drop (i + 1)) = r1 at *
            generalize hr2 : nT (S.drop (i + 1)) = r2 at *
            generalize hK2 : (fun fr a => goS dir (S.drop (i + 1)) (i + 1) fr a) = K2 at *
            have Hr1 := Lib.hid hr1
            have Hr2 := Lib.hid hr2
            have HK2 : Hid (∀ fr a, K2 fr a = goS dir (S.drop (i + 1)) (i + 1) fr a) := fun fr a => by rw [← hK2]
            have HR := Lib.hid hR
            have Hown := Lib.hid hown
            clear hcs hTs hat hatt hTi hr1 hr2 hK2 hR hown
            go_wp2_with fail
            have hown1 := Lib.hid (Hown.out.alloc (.cells #[.slice none 0 0, .slice ax T.length cx] 52))
            have oa : Old w2 (wr.alloc (.cells #[.slice none 0 0, .slice ax T.length cx] 52)) := ho.alloc _
            generalize wr.alloc (.cells #[.slice none 0 0, .slice ax T.length cx] 52) = wa at *
            clear s0 s1 ho Hown
            go_loopw [12, 13, 61] (fun x y j wr => ∃ (k fr : Nat) (acc : List Rfr), j = .int .i64 k ∧ y = .int .i64 fr ∧ k ≤ T.length ∧ goT dir i (T.drop k) fr acc K2 = R ∧ acc.length + (nR (T.drop k) + r1) ≤ 65536 ∧ fr + (T.length - k + r2) ≤ 1000 ∧ OwnS rfE 43 w2 wr x acc ∧ Old w2 wr) (fun _ _ j _ => T.length - (intOf j).toNat)
            case atStart => exact ⟨0, fr, acc, rfl, rfl, Nat.zero_le _, HR.out, hacc, by omega, hown1.out, oa⟩
            case round =>
              clear HR hacc hfr hown1 oa
              obtain ⟨k, fr, acc, rfl, rfl, hk, hR, hacc, hfr, hown, ho⟩ := hrel
              by_cases hlt2 : k < T.length
              · have hk1 : (k : Int) < T.length := by omega
                obtain ⟨B, hBk⟩ : ∃ B, T[k]? = some B := ⟨_, List.getElem?_eq_getElem hlt2⟩
                rw [goT_at hBk] at hR
                rw [nR_drop hBk] at hacc
                have HPB := Lib.hid (HPT.out B (List.mem_of_getElem? hBk))
                obtain ⟨ab, cb, hcs, hBs, k3, k4⟩ := Hatt.out k B hBk
                obtain rfl := Hat.out (by omega)
                have c0 : ∀ V, Old wr V → V.cell? ⟨bt, ot + k * 8, none⟩ = some (.int .i64 0) := fun V o => (hcs V ((o2.trans ho).trans o)).1
                have c1 : ∀ V, Old wr V → V.cell? ⟨bt, ot + k * 8 + 1, none⟩ = some (.string ⟨#[]⟩) := fun V o => (hcs V ((o2.trans ho).trans o)).2.1
                have c2 : ∀ V, Old wr V → V.cell? ⟨bt, ot + k * 8 + 2, none⟩ = some (.string ⟨#[]⟩) := fun V o => (hcs V ((o2.trans ho).trans o)).2.2.1
                have c3 : ∀ V, Old wr V → V.cell? ⟨bt, ot + k * 8 + 3, none⟩ = some (.int .i64 0) := fun V o => (hcs V ((o2.trans ho).trans o)).2.2.2.1
                have c4 : ∀ V, Old wr V → V.cell? ⟨bt, ot + k * 8 + 4, none⟩ = some (.slice none 0 0) := fun V o => (hcs V ((o2.trans ho).trans o)).2.2.2.2.1
                have c5 : ∀ V, Old wr V → V.cell? ⟨bt, ot + k * 8 + 5, none⟩ = some (.slice none 0 0) := fun V o => (hcs V ((o2.trans ho).trans o)).2.2.2.2.2.1
                have c6 : ∀ V, Old wr V → V.cell? ⟨bt, ot + k * 8 + 6, none⟩ = some (.slice ab B.length cb) := fun V o => (hcs V ((o2.trans ho).trans o)).2.2.2.2.2.2.1
                have c7 : ∀ V, Old wr V → V.cell? ⟨bt, ot + k * 8 + 7, none⟩ = some (.int .i64 0) := fun V o => (hcs V ((o2.trans ho).trans o)).2.2.2.2.2.2.2
                obtain ⟨bb, ob, hab, habt⟩ := Blks.open hBs
                have Hab := Lib.hid hab
                have Habt := Lib.hid habt
                generalize hr3 : nR (T.drop (k + 1)) = r3 at *
                generalize hK3 : (fun a => goT dir i (T.drop (k + 1)) (fr + 1) a K2) = K3 at *
                have Hr3 := Lib.hid hr3
                have HK3 : Hid (∀ a, K3 a = goT dir i (T.drop (k + 1)) (fr + 1) a K2) := fun a => by rw [← hK3]
                have HR := Lib.hid hR
                have Hown := Lib.hid hown
                clear hcs hBs hab habt hBk hr3 hK3 hR hown
                go_wp2_with fail
                have hown1 := Lib.hid (Hown.out.alloc (.cells #[.int .i64 0, .string ⟨#[]⟩, .string ⟨#[]⟩, .int .i64 0, .slice none 0 0, .slice none 0 0, .slice ab B.length cb, .int .i64 0] 57))
                have oa : Old w2 (wr.alloc (.cells #[.int .i64 0, .string ⟨#[]⟩, .string ⟨#[]⟩, .int .i64 0, .slice none 0 0, .slice none 0 0, .slice ab B.length cb, .int .i64 0] 57)) := ho.alloc _
                generalize wr.alloc (.cells #[.int .i64 0, .string ⟨#[]⟩, .string ⟨#[]⟩, .int .i64 0, .slice none 0 0, .slice none 0 0, .slice ab B.length cb, .int .i64 0] 57) = wb at *
                clear c0 c1 c2 c3 c4 c5 c6 c7 ho Hown
                go_loopw [12, 68] (fun x j wr => ∃ (n : Nat) (acc : List Rfr), j = .int .i64 n ∧ n ≤ B.length ∧ goB dir fr i (B.drop n) acc K3 = R ∧ acc.length + (nB (B.drop n) + r3 + r1) ≤ 65536 ∧ OwnS rfE 43 w2 wr x acc ∧ Old w2 wr) (fun _ j _ => B.length - (intOf j).toNat)
                case atStart => exact ⟨0, acc, rfl, Nat.zero_le _, HR.out, hacc, hown1.out, oa⟩
                case round =>
                  clear HR hacc hown1 oa
                  obtain ⟨n, acc, rfl, hn, hR, hacc, hown, ho⟩ := hrel
                  by_cases hlt3 : n < B.length
                  · have hn1 : (n : Int) < B.length := by omega
                    obtain ⟨P, hPn⟩ : ∃ P, B[n]? = some P := ⟨_, List.getElem?_eq_getElem hlt3⟩
                    rw [goB_at hPn] at hR
                    rw [nB_drop hPn] at hacc
                    have hPl := HPB.out P (List.mem_of_getElem? hPn)
                    obtain ⟨kd, ap, cp, hcs, hPs, k5, k6⟩ := Habt.out n P hPn
                    obtain rfl := Hab.out (by omega)
                    have c0 : ∀ V, Old wr V → V.cell? ⟨bb, ob + n * 6, none⟩ = some (.int .i64 kd) := fun V o => (hcs V ((o2.trans ho).trans o)).1
                    have c1 : ∀ V, Old wr V → V.cell? ⟨bb, ob + n * 6 + 1, none⟩ = some (.int .i64 0) := fun V o => (hcs V ((o2.trans ho).trans o)).2.1
                    have c2 : ∀ V, Old wr V → V.cell? ⟨bb, ob + n * 6 + 2, none⟩ = some (.string ⟨#[]⟩) := fun V o => (hcs V ((o2.trans ho).trans o)).2.2.1
                    have c3 : ∀ V, Old wr V → V.cell? ⟨bb, ob + n * 6 + 3, none⟩ = some (.slice none 0 0) := fun V o => (hcs V ((o2.trans ho).trans o)).2.2.2.1
                    have c4 : ∀ V, Old wr V → V.cell? ⟨bb, ob + n * 6 + 4, none⟩ = some (.slice ap P.length cp) := fun V o => (hcs V ((o2.trans ho).trans o)).2.2.2.2.1
                    have c5 : ∀ V, Old wr V → V.cell? ⟨bb, ob + n * 6 + 5, none⟩ = some (.int .i64 0) := fun V o => (hcs V ((o2.trans ho).trans o)).2.2.2.2.2
                    obtain ⟨bp, op, hap, hapt⟩ := Ins.open hPs
                    have Hap := Lib.hid hap
                    have Hapt := Lib.hid hapt
                    generalize hr4 : nB (B.drop (n + 1)) = r4 at *
                    generalize hK4 : (fun a => goB dir fr i (B.drop (n + 1)) a K3) = K4 at *
                    have Hr4 := Lib.hid hr4
                    have HK4 : Hid (∀ a, K4 a = goB dir fr i (B.drop (n + 1)) a K3) := fun a => by rw [← hK4]
                    have Hown := Lib.hid hown
                    have HR := Lib.hid hR
                    clear hcs hPs hPn hr4 hown hR hK4 hap hapt
                    go_wp2_with fail
                    have hown1 := Lib.hid (Hown.out.alloc (.cells #[.int .i64 kd, .int .i64 0, .string ⟨#[]⟩, .slice none 0 0, .slice ap P.length cp, .int .i64 0] 62))
                    have oa : Old w2 (wr.alloc (.cells #[.int .i64 kd, .int .i64 0, .string ⟨#[]⟩, .slice none 0 0, .slice ap P.length cp, .int .i64 0] 62)) := ho.alloc _
                    generalize wr.alloc (.cells #[.int .i64 kd, .int .i64 0, .string ⟨#[]⟩, .slice none 0 0, .slice ap P.length cp, .int .i64 0] 62) = wd at *
                    clear c0 c1 c2 c3 c4 c5 ho Hown
                    go_loopw [12, 75] (fun x j wr => ∃ (m : Nat) (acc : List Rfr), j = .int .i64 m ∧ m ≤ P.length ∧ goP dir fr i (P.drop m) acc K4 = R ∧ acc.length + (nP (P.drop m) + r4 + r3 + r1) ≤ 65536 ∧ OwnS rfE 43 w2 wr x acc ∧ Old w2 wr) (fun _ j _ => P.length - (intOf j).toNat)
                    case atStart => exact ⟨0, acc, rfl, Nat.zero_le _, HR.out, hacc, hown1.out, oa⟩
                    case round =>
                      clear HR hacc hown1 oa
                      obtain ⟨m, acc, rfl, hm, hR, hacc, hown, ho⟩ := hrel
                      by_cases hlt4 : m < P.length
                      · have hm1 : (m : Int) < P.length := by omega
                        obtain ⟨p, hpm⟩ : ∃ p, P[m]? = some p := ⟨_, List.getElem?_eq_getElem hlt4⟩
                        rw [nP_drop hpm] at hacc
                        rw [goP_at hpm] at hR
                        have hcs := Hapt.out m p hpm
                        obtain rfl := Hap.out (by omega)
                        have c0 : ∀ V, Old wr V → V.cell? ⟨bp, op + m * 5, none⟩ = some (.int .i64 p.kind) := fun V o => (hcs V ((o2.trans ho).trans o)).1
                        have c1 : ∀ V, Old wr V → V.cell? ⟨bp, op + m * 5 + 1, none⟩ = some (.string ⟨#[]⟩) := fun V o => (hcs V ((o2.trans ho).trans o)).2.1
                        have c2 : ∀ V, Old wr V → V.cell? ⟨bp, op + m * 5 + 2, none⟩ = some (.string p.name) := fun V o => (hcs V ((o2.trans ho).trans o)).2.2.1
                        have c3 : ∀ V, Old wr V → V.cell? ⟨bp, op + m * 5 + 3, none⟩ = some (.int .i64 p.line) := fun V o => (hcs V ((o2.trans ho).trans o)).2.2.2.1
                        have c4 : ∀ V, Old wr V → V.cell? ⟨bp, op + m * 5 + 4, none⟩ = some (.int .i64 p.col) := fun V o => (hcs V ((o2.trans ho).trans o)).2.2.2.2
                        generalize hr5 : nP (P.drop (m + 1)) = r5 at *
                        have Hr5 := Lib.hid hr5
                        have Hown := Lib.hid hown
                        have hrb : refB p = (p.kind == 3 || p.kind == 4) := rfl
                        clear hcs hpm hr5 hown
                        by_cases hrf : p.kind = 3 ∨ p.kind = 4
                        · have hrt : refB p = true := refB_iff.2 hrf
                          rw [hrt] at hacc hR
                          rw [if_pos rfl] at hR
                          have HR := Lib.hid hR
                          simp only [Bool.toNat_true] at hacc
                          have HRp := Lib.hid (fun V (o : Old w2 V) => HRf2.out p V o)
                          have Hcd := Lib.hid (fun c h => judge_code (dir := dir) (p := p) (c := c) h)
                          generalize judge dir p = J at *
                          clear hR hrb hrt
                          unfold inC at HRp
                          have HT4 : p.kind = 3 ∨ (p.kind != 3) = true ∧ (p.kind != 4) = false := by
                            rcases hrf with h | h
                            · exact .inl h
                            · exact .inr ⟨by rw [h]; rfl, by rw [h]; rfl⟩
                          clear hrf
                          rcases HT4 with h3 | ⟨hb3, hb4⟩
                          · have hb3 : (p.kind != 3) = false := by rw [h3]; rfl
                            clear h3
                            go_wp2_with fail
                            refine (HRp.out _ (ho.alloc _)).mono ?_
                            rintro e w3 ⟨rfl, o3⟩
                            have oq : Old wr w3 := ((Old.refl wr).alloc _).trans o3
                            have p2 := later (o3.cell (p := ⟨wr.heap.size, 2, none⟩) (v := .string p.name) (by simp [go_sem]))
                            have p3 := later (o3.cell (p := ⟨wr.heap.size, 3, none⟩) (v := .int .i64 p.line) (by simp [go_sem]))
                            have p4 := later (o3.cell (p := ⟨wr.heap.size, 4, none⟩) (v := .int .i64 p.col) (by simp [go_sem]))
                            have oR : Old w2 w3 := ho.trans oq
                            have hown3 := Hown.out.old oq
                            clear c0 c1 c2 c3 c4 HRp
                            cases J with
                            | error c =>
                              have hc := Hcd.out c rfl
                              have hcb : (c != 0) = true := by rw [bne_iff_ne]; exact hc
                              have HR2 := Lib.hid (show (.error ⟨c, i, p.line, p.col, p.name⟩ : Res) = R from HR.out)
                              unfold judged rfC
                              clear HR Hcd
                              go_wp2_with fail
                              refine (FNew_any c i p.line p.col p.name _ hc).mono ?_
                              rintro e w4 ⟨⟨u, rfl, hu⟩, o4⟩
                              go_wp2_with fail
                              go_ret2
                              exact ⟨.inr ⟨⟨c, i, p.line, p.col, p.name⟩, u, HR2.out.symm, hc, rfl, hu⟩, (o2.trans (oR.alloc _)).trans o4⟩
                            | ok kk =>
                              have HR2 := Lib.hid (show goP dir fr i (P.drop (m + 1)) (acc ++ [⟨fr, kk, noteI p, p.name, p.line, p.col⟩]) K4 = R from HR.out)
                              unfold judged rfC
                              clear HR Hcd
                              go_wp2_with (at_builtin; go_loud (refine wpList_append_recs (c := rfE) (w0 := w2) rfl _ _ 24 rfl 43 Tryd.underlying24 _ infoRf rfl (Nat.zero_lt_succ 5) _ acc [⟨fr, kk, noteI p, p.name, p.line, p.col⟩] rfl ((hown3.alloc _).alloc _) _ rfl (Recs.oneAt (c := rfE) _ 43 ⟨fr, kk, noteI p, p.name, p.line, p.col⟩ (by simp [go_sem])) (by simp; omega) (by simp; omega) ((oR.alloc _).alloc _) ?_); intro v5 w5 hown5 ho5 _)
                              go_roundw
                              case rel => exact ⟨m + 1, _, by go_num, by omega, HR2.out, by rw [List.length_append, Hr5.out]; simp; omega, hown5, ho5⟩
                              case measure => simp [intOf]; omega
                          · skip
                            go_wp2_with fail
                            refine (HRp.out _ (ho.alloc _)).mono ?_
                            rintro e w3 ⟨rfl, o3⟩
                            have oq : Old wr w3 := ((Old.refl wr).alloc _).trans o3
                            have p2 := later (o3.cell (p := ⟨wr.heap.size, 2, none⟩) (v := .string p.name) (by simp [go_sem]))
                            have p3 := later (o3.cell (p := ⟨wr.heap.size, 3, none⟩) (v := .int .i64 p.line) (by simp [go_sem]))
                            have p4 := later (o3.cell (p := ⟨wr.heap.size, 4, none⟩) (v := .int .i64 p.col) (by simp [go_sem]))
                            have oR : Old w2 w3 := ho.trans oq
                            have hown3 := Hown.out.old oq
                            clear c0 c1 c2 c3 c4 HRp
                            cases J with
                            | error c =>
                              have hc := Hcd.out c rfl
                              have hcb : (c != 0) = true := by rw [bne_iff_ne]; exact hc
                              have HR2 := Lib.hid (show (.error ⟨c, i, p.line, p.col, p.name⟩ : Res) = R from HR.out)
                              unfold judged rfC
                              clear HR Hcd
                              go_wp2_with fail
                              refine (FNew_any c i p.line p.col p.name _ hc).mono ?_
                              rintro e w4 ⟨⟨u, rfl, hu⟩, o4⟩
                              go_wp2_with fail
                              go_ret2
                              exact ⟨.inr ⟨⟨c, i, p.line, p.col, p.name⟩, u, HR2.out.symm, hc, rfl, hu⟩, (o2.trans (oR.alloc _)).trans o4⟩
                            | ok kk =>
                              have HR2 := Lib.hid (show goP dir fr i (P.drop (m + 1)) (acc ++ [⟨fr, kk, noteI p, p.name, p.line, p.col⟩]) K4 = R from HR.out)
                              unfold judged rfC
                              clear HR Hcd
                              go_wp2_with (at_builtin; go_loud (refine wpList_append_recs (c := rfE) (w0 := w2) rfl _ _ 24 rfl 43 Tryd.underlying24 _ infoRf rfl (Nat.zero_lt_succ 5) _ acc [⟨fr, kk, noteI p, p.name, p.line, p.col⟩] rfl ((hown3.alloc _).alloc _) _ rfl (Recs.oneAt (c := rfE) _ 43 ⟨fr, kk, noteI p, p.name, p.line, p.col⟩ (by simp [go_sem])) (by simp; omega) (by simp; omega) ((oR.alloc _).alloc _) ?_); intro v5 w5 hown5 ho5 _)
                              go_roundw
                              case rel => exact ⟨m + 1, _, by go_num, by omega, HR2.out, by rw [List.length_append, Hr5.out]; simp; omega, hown5, ho5⟩
                              case measure => simp [intOf]; omega
                        · have hb3 : (p.kind != 3) = true := by rw [bne_iff_ne]; exact fun h => hrf (.inl h)
                          have hb4 : (p.kind != 4) = true := by rw [bne_iff_ne]; exact fun h => hrf (.inr h)
                          have hrt : refB p = false := by rw [Bool.eq_false_iff]; exact fun h => hrf (refB_iff.1 h)
                          rw [hrt] at hacc hR
                          have HR := Lib.hid hR
                          clear hrf hrt hrb hR
                          simp only [Bool.toNat_false] at hacc
                          go_wp2_with fail
                          go_roundw
                          case rel => exact ⟨m + 1, acc, by go_num, by omega, HR.out, by rw [Hr5.out]; omega, Hown.out.old ((Old.refl _).alloc _), ho.alloc _⟩
                          case measure => simp [intOf]; omega
                      · have hmP : m = P.length := by omega
                        subst hmP
                        have hm1 : ¬ (P.length : Int) < P.length := by omega
                        rw [List.drop_length] at hacc hR
                        have HR := Lib.hid hR
                        clear hR
                        go_wp2_with fail
                        go_roundw
                        case rel => exact ⟨n + 1, acc, by go_num, by omega, by rw [← HK4.out]; exact HR.out, by rw [Hr4.out]; have h0 : nP [] = 0 := rfl; omega, hown, ho⟩
                        case measure => simp [intOf]; omega
                  · have hnB : n = B.length := by omega
                    subst hnB
                    have hn1 : ¬ (B.length : Int) < B.length := by omega
                    rw [List.drop_length] at hacc hR
                    have HR := Lib.hid hR
                    clear hR
                    go_wp2_with fail
                    go_roundw
                    case rel => exact ⟨k + 1, fr + 1, acc, by go_num, by go_num, by omega, by rw [← HK3.out]; exact HR.out, by rw [Hr3.out]; have h0 : nB [] = 0 := rfl; omega, by omega, hown, ho⟩
                    case measure => simp [intOf]; omega
              · have hkT : k = T.length := by omega
                subst hkT
                have hk1 : ¬ (T.length : Int) < T.length := by omega
                rw [List.drop_length] at hacc hR
                have HR := Lib.hid hR
                clear hR
                go_wp2_with fail
                go_roundw
                case rel => exact ⟨i + 1, fr, acc, by go_num, by first | rfl | trivial, by omega, by rw [← HK2.out]; exact HR.out, by rw [Hr1.out]; have h0 : nR [] = 0 := rfl; omega, by rw [Hr2.out]; omega, hown, ho⟩
                case measure => simp [intOf]; omega
          · have hiS : i = S.length := by omega
            subst hiS
            have hi1 : ¬ (S.length : Int) < S.length := by omega
            rw [List.drop_length] at hR
            have HR := Lib.hid hR
            have Hown := Lib.hid hown
            clear hR hown
            go_wp2_with fail
            go_ret2
            exact ⟨.inl ⟨acc, _, HR.out.symm, rfl, Hown.out.lower o2.size⟩, o2.trans ho⟩
end Go.Proofs.YtkaoipegbjmlnaaDoor
