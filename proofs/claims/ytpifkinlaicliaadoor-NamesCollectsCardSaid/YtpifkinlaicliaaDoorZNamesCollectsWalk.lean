/-
  NamesCollects: of sources that are taken each topic has its place in the directory: the walk.
-/
import Derived.Test.YtpifkinlaicliaaDoorZCollect
import Derived.Test.YtpifkinlaicliaaDoorZTextDigits
import Derived.BigQuiet
namespace Go.Proofs.YtpifkinlaicliaaDoor
open Go.RowKit Go.Maps
attribute [local go_sem] Old.refl Old.alloc Old.drew Old.setCell OldW.old

theorem Dns.open {w : World} {a : Option Addr} {n cap : Nat} {D : List Dn} (h : Recs dnE w (.slice a n cap) D) : ∃ b off, (0 < D.length → a = some ⟨b, off, none⟩) ∧ ∀ (i : Nat) (x : Dn), D[i]? = some x →
    ∀ V, Old w V → V.cell? ⟨b, off + i * 6, none⟩ = some (.string x.name) ∧ V.cell? ⟨b, off + i * 6 + 1, none⟩ = some (.string x.norm) ∧ V.cell? ⟨b, off + i * 6 + 2, none⟩ = some (.int .i64 x.src) ∧ V.cell? ⟨b, off + i * 6 + 3, none⟩ = some (.int .i64 x.at') ∧
      V.cell? ⟨b, off + i * 6 + 4, none⟩ = some (.int .i64 x.kind) ∧ V.cell? ⟨b, off + i * 6 + 5, none⟩ = some (.int .i64 x.line) := by
  obtain ⟨a', cap', b, off, e, _, _, h3, ht⟩ := h
  obtain ⟨rfl, _, rfl⟩ := Value.slice.inj e
  refine ⟨b, off, h3, fun i x hx V o => ?_⟩
  have g0 := ht (i * 6 + 0) _ (Enc.all_at (c := dnE) (j := 0) hx rfl) V o
  have g1 := ht (i * 6 + 1) _ (Enc.all_at (c := dnE) (j := 1) hx rfl) V o
  have g2 := ht (i * 6 + 2) _ (Enc.all_at (c := dnE) (j := 2) hx rfl) V o
  have g3 := ht (i * 6 + 3) _ (Enc.all_at (c := dnE) (j := 3) hx rfl) V o
  have g4 := ht (i * 6 + 4) _ (Enc.all_at (c := dnE) (j := 4) hx rfl) V o
  have g5 := ht (i * 6 + 5) _ (Enc.all_at (c := dnE) (j := 5) hx rfl) V o
  rw [← Nat.add_assoc] at g1 g2 g3 g4 g5
  exact ⟨g0, g1, g2, g3, g4, g5⟩
theorem RetC.split {w w' : World} {S : List (List Tq)} {e : Ending} (h : RetC w w' S e) : ∃ u er, e = .returned (.tuple #[u, er]) ∧
    ((∃ t x, er = .iface t x ∧ u = .slice none 0 0) ∨ (er = .nilIface ∧ OwnS dnE 68 w w' u (flatD S S.length) ∧ GoodD (flatD S S.length) ∧ totD S S.length ≤ 1000 ∧ S.length ≤ 64)) := by
  rcases h with ⟨t, x, rfl⟩ | ⟨u, rfl, h⟩
  · exact ⟨_, _, rfl, .inl ⟨_, _, rfl, rfl⟩⟩
  · exact ⟨_, _, rfl, .inr ⟨rfl, h⟩⟩
set_option maxRecDepth 100000 in
set_option maxHeartbeats 3200000 in
theorem namesCollects_row_walk (W : World) (hT : Tabs W) (S : List (List Tq)) (v : Value) (hv : Sqs W v S) (hS : ∀ T ∈ S, T.length ≤ 140737488355328) :
    Calls Tryd.prog 8 #[v] W fun e w' => e = .returned (.bool true) ∧ Old W w' := by
  have Ha := Lib.hid (awake_any W hT)
  have HT := Lib.hid hT
  have Hv := Lib.hid hv
  obtain ⟨a, cap, rfl, hc1, hc2⟩ := Seqs.form hv
  have HC := Lib.hid (fun V (o : Old W V) => Collect_any _ S V (Hv.out.old o) (HT.out.old o) hS)
  have hmm := @run_makeMap Tryd.prog
  clear hT hv hS
  go_enter Tryd.func8, Tryd.ntmps8
  go_upto_region 3 with (go_at_call 9; refine Ha.out.mono ?_; rintro e w1 ⟨rfl, o1⟩)
  go_upto_region 4 with (go_at_call 23; refine (HC.out _ o1).mono ?_; rintro e w2 ⟨hR0, o2⟩; obtain ⟨u, er, rfl, hR⟩ := hR0.split; clear hR0)
  rcases hR with ⟨t, x, rfl, rfl⟩ | ⟨rfl, hown, hgood, htot, h64⟩
  · go_wp2_with fail
    go_ret
    exact ⟨rfl, o1.trans o2⟩
  · have hDl := flatD_length S S.length
    obtain ⟨aD, cD, rfl, hD1, hD2⟩ := Recs.form hown.recs
    obtain ⟨bd, od, had, hatd⟩ := Dns.open hown.recs
    have Had := Lib.hid had
    have Hatd := Lib.hid hatd
    have HG := Lib.hid hgood
    obtain ⟨bs, os, has, hats⟩ := Sqs.open Hv.out
    have Has := Lib.hid has
    have Hats := Lib.hid hats
    have O2 := o1.trans o2
    rw [hDl] at Had
    have Hrow := Lib.hid (fun (i k : Nat) (T : List Tq) (t : Tq) (h1 : S[i]? = some T) (h2 : T[k]? = some t) => flatD_at h1 h2)
    have HD := Lib.hid hDl
    clear hown hgood had hatd has hats o1 o2 Ha HC Hv
    rw [hDl]
    clear hDl
    generalize hD : flatD S S.length = D at *
    clear hD
    go_upto_region 8 with fail
    have hM := MapTO.made Tryd.prog 9 3 w2
    have oM : Old w2 (w2.alloc (.map #[] 0)) := (Old.refl w2).alloc _
    generalize w2.alloc (.map #[] 0) = w0 at *
    generalize hbl : w2.heap.size = bl at *
    go_wp2_with fail
    have hbw : w2.heap.size ≤ bl := by omega
    clear hbl
    have hDnil : flatD S 0 = [] := rfl
    go_loopw [5, 28] (fun p j wr => ∃ (i n : Nat), j = .int .i64 i ∧ p = .int .i64 (totD S i) ∧ i ≤ S.length ∧ MapTO Tryd.prog 9 3 wr bl n (cntD (flatD S i)) ∧ n ≤ totD S i ∧ Old w2 wr) (fun _ j _ => S.length - (intOf j).toNat)
    case atStart => exact ⟨0, 0, rfl, rfl, Nat.zero_le _, by rw [hDnil, cntD_nil]; exact hM, Nat.zero_le _, oM⟩
    case round =>
      clear hM oM hDnil
      obtain ⟨i, n, rfl, rfl, hi, hmap, hn, ho⟩ := hrel
      by_cases hlt : i < S.length
      · have hi1 : (i : Int) < S.length := by omega
        obtain ⟨T, hTi⟩ : ∃ T, S[i]? = some T := ⟨_, List.getElem?_eq_getElem hlt⟩
        obtain ⟨a0, n0, c0', ax, cx, hcs, hTs, k1, k2⟩ := Hats.out i T hTi
        obtain rfl := Has.out (by omega)
        have c0 : ∀ V, Old wr V → V.cell? ⟨bs, os + i * 2, none⟩ = some (.slice a0 n0 c0') := fun V o => (hcs V ((O2.trans ho).trans o)).1
        have c1 : ∀ V, Old wr V → V.cell? ⟨bs, os + i * 2 + 1, none⟩ = some (.slice ax T.length cx) := fun V o => (hcs V ((O2.trans ho).trans o)).2
        have HTi := Lib.hid hTi
        obtain ⟨bt, ot, hat, hatt⟩ := Tqs.open hTs
        have Hat := Lib.hid hat
        have Hatt := Lib.hid hatt
        have Hsum : Hid (totD S i + T.length ≤ totD S S.length) := Lib.hid (by
          have h1 := totD_succ hTi
          have h2 := totD_mono S (show i + 1 ≤ S.length from hlt)
          omega)
        have HM := Lib.hid hmap
        clear hcs hTs hat hatt hTi hmap
        go_wp2_with fail
        have oa : Old wr (wr.alloc (.cells #[.slice a0 n0 c0', .slice ax T.length cx] 61)) := (Old.refl wr).alloc _
        have o1 := ho.trans oa
        have hmap := HM.out.old oa
        generalize wr.alloc (.cells #[.slice a0 n0 c0', .slice ax T.length cx] 61) = w1 at *
        clear c0 c1 ho HM oa
        go_loopw [5, 36] (fun p j wr => ∃ (k n : Nat), j = .int .i64 k ∧ p = .int .i64 ((totD S i : Nat) + (k : Nat) : Int) ∧ k ≤ T.length ∧ MapTO Tryd.prog 9 3 wr bl n (cntD (flatD S i ++ rowsD i T k)) ∧ n ≤ totD S i + k ∧ Old w2 wr) (fun _ j _ => T.length - (intOf j).toNat)
        case atStart => exact ⟨0, n, rfl, by go_num, Nat.zero_le _, by rw [show rowsD i T 0 = [] from rfl, List.append_nil]; exact hmap, hn, o1⟩
        case round =>
          clear hmap hn o1
          obtain ⟨k, n, rfl, rfl, hk, hmap, hn, ho⟩ := hrel
          by_cases hlt2 : k < T.length
          · have hk1 : (k : Int) < T.length := by omega
            obtain ⟨t, htk⟩ : ∃ t, T[k]? = some t := ⟨_, List.getElem?_eq_getElem hlt2⟩
            obtain ⟨a4, n4, c4', a5, n5, c5', a6, n6, c6', hcs⟩ := Hatt.out k t htk
            obtain rfl := Hat.out (by omega)
            have hrow : flatD S i ++ rowsD i T (k + 1) = (flatD S i ++ rowsD i T k) ++ [rowD i k t] := by rw [rowsD_succ htk, List.append_assoc]
            have Hrow' := Lib.hid hrow
            obtain ⟨hat1, hpre⟩ := Hrow.out i k T t HTi.out htk
            obtain ⟨he, hni⟩ := (HG.out.pre hpre).last
            have hni : nrm t.name ∉ (flatD S i ++ rowsD i T k).map Dn.norm := hni
            have he : (normR t.name).2 = 0 := he
            have hcd := Hatd.out _ _ hat1
            have hsum := Hsum.out
            obtain rfl := Had.out (by omega)
            have hlt3 : ((totD S i : Nat) + (k : Nat) : Int) < (totD S S.length : Nat) := by omega
            have hdc : decide ((totD S S.length : Int) ≤ (totD S i : Int) + (k : Int)) = false := by rw [decide_eq_false_iff_not]; omega
            have g0 : ∀ V, Old wr V → V.cell? ⟨bt, ot + k * 8, none⟩ = some (.int .i64 t.kind) := fun V o => (hcs V ((O2.trans ho).trans o)).1
            have g1 : ∀ V, Old wr V → V.cell? ⟨bt, ot + k * 8 + 1, none⟩ = some (.string t.name) := fun V o => (hcs V ((O2.trans ho).trans o)).2.1
            have g2 : ∀ V, Old wr V → V.cell? ⟨bt, ot + k * 8 + 2, none⟩ = some (.string t.title) := fun V o => (hcs V ((O2.trans ho).trans o)).2.2.1
            have g3 : ∀ V, Old wr V → V.cell? ⟨bt, ot + k * 8 + 3, none⟩ = some (.int .i64 t.n3) := fun V o => (hcs V ((O2.trans ho).trans o)).2.2.2.1
            have g4 : ∀ V, Old wr V → V.cell? ⟨bt, ot + k * 8 + 4, none⟩ = some (.slice a4 n4 c4') := fun V o => (hcs V ((O2.trans ho).trans o)).2.2.2.2.1
            have g5 : ∀ V, Old wr V → V.cell? ⟨bt, ot + k * 8 + 5, none⟩ = some (.slice a5 n5 c5') := fun V o => (hcs V ((O2.trans ho).trans o)).2.2.2.2.2.1
            have g6 : ∀ V, Old wr V → V.cell? ⟨bt, ot + k * 8 + 6, none⟩ = some (.slice a6 n6 c6') := fun V o => (hcs V ((O2.trans ho).trans o)).2.2.2.2.2.2.1
            have g7 : ∀ V, Old wr V → V.cell? ⟨bt, ot + k * 8 + 7, none⟩ = some (.int .i64 t.line) := fun V o => (hcs V ((O2.trans ho).trans o)).2.2.2.2.2.2.2
            have HN := Lib.hid (fun V (o : Old W V) => Norm_any t.name V (HT.out.old o))
            rw [he] at HN
            rw [show (normR t.name).1 = nrm t.name from rfl] at HN
            have hs' : (nrm t.name).size ≤ 9223372036854775807 := by have := normR_size t.name; unfold nrm; omega
            have HM := Lib.hid hmap
            have Hz := Lib.hid (cntD_out hni)
            have Hcnt : Hid (cntD ((flatD S i ++ rowsD i T k) ++ [rowD i k t]) = fun x => if x = nrm t.name then some 1 else cntD (flatD S i ++ rowsD i T k) x) := Lib.hid (by rw [cntD_snoc]; rfl)
            have hcd' : ∀ V, Old w2 V → V.cell? ⟨bd, od + (totD S i + k) * 6, none⟩ = some (.string t.name) ∧ V.cell? ⟨bd, od + (totD S i + k) * 6 + 1, none⟩ = some (.string (nrm t.name)) ∧ V.cell? ⟨bd, od + (totD S i + k) * 6 + 2, none⟩ = some (.int .i64 i) ∧ V.cell? ⟨bd, od + (totD S i + k) * 6 + 3, none⟩ = some (.int .i64 k) ∧
              V.cell? ⟨bd, od + (totD S i + k) * 6 + 4, none⟩ = some (.int .i64 t.kind) ∧ V.cell? ⟨bd, od + (totD S i + k) * 6 + 5, none⟩ = some (.int .i64 t.line) := hcd
            clear hcs hmap hrow htk hcd he hni hpre hat1
            generalize flatD S i ++ rowsD i T k = l0 at *
            go_upto_region 14 with fail
            have oa : Old wr (wr.alloc (.cells #[.int .i64 t.kind, .string t.name, .string t.title, .int .i64 t.n3, .slice a4 n4 c4', .slice a5 n5 c5', .slice a6 n6 c6', .int .i64 t.line] 66)) := (Old.refl wr).alloc _
            have C0 := later (show (wr.alloc (.cells #[.int .i64 t.kind, .string t.name, .string t.title, .int .i64 t.n3, .slice a4 n4 c4', .slice a5 n5 c5', .slice a6 n6 c6', .int .i64 t.line] 66)).cell? ⟨wr.heap.size, 0, none⟩ = some (.int .i64 t.kind) by simp [go_sem])
            have C1 := later (show (wr.alloc (.cells #[.int .i64 t.kind, .string t.name, .string t.title, .int .i64 t.n3, .slice a4 n4 c4', .slice a5 n5 c5', .slice a6 n6 c6', .int .i64 t.line] 66)).cell? ⟨wr.heap.size, 1, none⟩ = some (.string t.name) by simp [go_sem])
            have C7 := later (show (wr.alloc (.cells #[.int .i64 t.kind, .string t.name, .string t.title, .int .i64 t.n3, .slice a4 n4 c4', .slice a5 n5 c5', .slice a6 n6 c6', .int .i64 t.line] 66)).cell? ⟨wr.heap.size, 7, none⟩ = some (.int .i64 t.line) by simp [go_sem])
            have oA := ho.trans oa
            replace HM := Lib.hid (HM.out.old oa)
            generalize wr.alloc (.cells #[.int .i64 t.kind, .string t.name, .string t.title, .int .i64 t.n3, .slice a4 n4 c4', .slice a5 n5 c5', .slice a6 n6 c6', .int .i64 t.line] 66) = wA at *
            generalize wr.heap.size = g at *
            have D0 := fun V (o : Old wA V) => (hcd' V (oA.trans o)).1
            have D1 := fun V (o : Old wA V) => (hcd' V (oA.trans o)).2.1
            have D2 := fun V (o : Old wA V) => (hcd' V (oA.trans o)).2.2.1
            have D3 := fun V (o : Old wA V) => (hcd' V (oA.trans o)).2.2.2.1
            have D4 := fun V (o : Old wA V) => (hcd' V (oA.trans o)).2.2.2.2.1
            have D5 := fun V (o : Old wA V) => (hcd' V (oA.trans o)).2.2.2.2.2
            clear g0 g1 g2 g3 g4 g5 g6 g7 oa ho hcd'
            generalize nrm t.name = q at *
            have od : ∀ m, Old wA (wA.drewN m) := fun m => (show Below wA.heap.size wA (wA.drewN m) from ⟨rfl, rfl, rfl, Nat.le_refl _, fun _ _ => rfl⟩)
            go_quiet (fail)
            go_wp2_with (first
              | (go_at_call 19; refine (HN.out _ (O2.trans (oA.trans (od _)))).mono ?_; rintro e w3 ⟨rfl, o3'⟩; have o3 := (od _).trans o3'; have hlk := run_lookup_none Tryd.underlying9 Tryd.underlying43 Tryd.underlying3 zeroInt (HM.out.old o3) hs' Hz.out)
              | (refine wpList_update_mto (w0 := w2) rfl _ _ _ _ rfl _ _ Tryd.underlying9 Tryd.underlying43 Tryd.underlying3 bl n _ rfl (HM.out.old o3) (by omega) q 1 rfl hs' rfl ⟨by omega, by omega⟩ (oA.trans o3) hbw ?_; intro w4 hm4 o4 hg4; rw [← Hcnt.out, ← Hrow'.out] at hm4; have HM4 := Lib.hid hm4; clear hm4 hg4 hlk))
            go_roundw
            case rel => exact ⟨k + 1, n + 1, by go_num, by go_num, by omega, HM4.out, by omega, o4⟩
            case measure => simp [intOf]; omega
          · obtain rfl : k = T.length := by omega
            have hk1 : ¬ (T.length : Int) < T.length := by omega
            have hfl := flatD_succ HTi.out
            rw [← hfl] at hmap
            have Hts := Lib.hid (totD_succ HTi.out)
            have HM := Lib.hid hmap
            clear hmap hfl
            go_wp2_with fail
            go_roundw
            case rel => exact ⟨i + 1, n, by go_num, by rw [Hts.out]; go_num, by omega, HM.out, by rw [Hts.out]; exact hn, ho⟩
            case measure => simp [intOf]; omega
      · obtain rfl : i = S.length := by omega
        have hi1 : ¬ (S.length : Int) < S.length := by omega
        go_wp2_with fail
        go_ret
        exact ⟨by simp, O2.trans ho⟩
end Go.Proofs.YtpifkinlaicliaaDoor
