/-
  KEYWORD, RN: the document's builder: an entry's number, put in if there is none.
-/
import Derived.Test.YtohngjkedhpikaaGreatDoorZKwRt
import Derived.Test.YtohngjkedhpikaaGreatDoorZKwR
import Derived.Test.YtohngjkedhpikaaGreatDoorZKwS
import Derived.Test.YtohngjkedhpikaaGreatDoorZKwW
import Derived.Test.YtohngjkedhpikaaGreatDoorZKwH
import Derived.BigRegion
import Derived.BigQuiet
import Derived.Deep.DeepCutAuto
import Derived.Test.YtohngjkedhpikaaGreatDoorZKwRr
import Derived.Test.YtohngjkedhpikaaGreatDoorZTextRefI
import Derived.Test.YtohngjkedhpikaaGreatDoorZKwM
namespace Go.Proofs.YtohngjkedhpikaaGreatDoor
open Go.RowKit Go.Maps
attribute [local go_sem] Old.refl Old.alloc Old.drew Old.setCell OldW.old

theorem infoEnN : (Tryz.prog.info? 45).map (fun i => (i.zero, i.size, i.bytes)) = some (some (.agg #[.string ⟨#[]⟩, .string ⟨#[]⟩, .slice none 0 0, .slice none 0 0]), 4, 80) := by kernel_rfl
theorem termO_newN {M : List Mn} {m : Mn} (h : termO M (foldS m.term) = none) : termO (M ++ [m]) = fun q => if q = foldS m.term then some m.term else termO M q := by
  funext q
  rw [termO_snoc]
  by_cases e : q = foldS m.term
  · subst e
    rw [h]
    simp
  · rw [if_neg e, if_neg e]
    cases hq : termO M q with
    | none => rfl
    | some x => rfl
theorem termO_oldN {M : List Mn} {m : Mn} {x : ByteArray} (h : termO M (foldS m.term) = some x) : termO (M ++ [m]) = termO M := by
  funext q
  rw [termO_snoc]
  by_cases e : q = foldS m.term
  · subst e
    rw [h]
    simp
  · rw [if_neg e]
    cases hq : termO M q with
    | none => rfl
    | some x => rfl
/-- an entry's number: with one more mention it is what is found then -/
def RetEn (w0 w w' : World) (bb tb k : Nat) (own : Nat → Option Int) (M : List Mn) (m : Mn) (e : Ending) : Prop :=
  ∃ (i : Nat) (L : List En) (lv : Value) (t : List Er) (own' : Nat → Option Int) (e0 : En), e = .returned (.int .i64 i) ∧ BD w0 w' bb tb k lv t L (termO (M ++ [m])) own' ∧ L[i]? = some e0 ∧ L.set i (addA e0 m) = rawOf (M ++ [m]) ∧ Fr own own' bb tb w w'
set_option maxRecDepth 100000 in
set_option maxHeartbeats 3200000 in
theorem entry_any (w0 w : World) (bb tb k : Nat) (lv : Value) (t : List Er) (own : Nat → Option Int) (M : List Mn) (m : Mn) (hD : BD w0 w bb tb k lv t (rawOf M) (termO M) own) (ho : Old w0 w) (hk : k ≤ 1000000) (hM : (rawOf M).length ≤ 1000000)
    (hz : m.term.size ≤ 4194304 ∧ m.sub.size ≤ 4194304 ∧ (foldS m.term).size ≤ 4194304 ∧ (foldS m.sub).size ≤ 4194304)
    (hsz : ∀ e ∈ rawOf M, e.term.size ≤ 4194304 ∧ e.sub.size ≤ 4194304 ∧ (foldS e.term).size ≤ 4194304 ∧ (foldS e.sub).size ≤ 4194304) :
    Calls Tryz.prog 112 #[.pointer (some ⟨bb, 0, none⟩), .string m.term, .string m.sub] w fun e w' => RetEn w0 w w' bb tb (k + 1) own M m e ∧ Old w0 w' := by
  obtain ⟨hz1, hz2, hz3, hz4⟩ := hz
  have HF := Lib.hid (RFold_any m.term w hz1)
  have HD := Lib.hid hD
  have HO := Lib.hid ho
  have HL := Lib.hid (fun (e : En) (he : e ∈ rawOf M) V => RLess_any e.term e.sub m.term m.sub V (hsz e he).1 (hsz e he).2.1 hz1 hz2 (hsz e he).2.2.1 (hsz e he).2.2.2 hz3 hz4)
  obtain ⟨f, hf⟩ : ∃ f, foldS m.term = f := ⟨_, rfl⟩
  have Hf := Lib.hid hf
  rw [hf] at HF hz3
  have hkf := Lib.hid (keyK (s := f) (by omega))
  obtain ⟨oT, hoT⟩ : ∃ o, termO M f = o := ⟨_, rfl⟩
  have HoT := Lib.hid hoT
  have c1 := later (show w.cell? ⟨bb, 1, none⟩ = some (.map (some tb)) from cells_at (i := 1) hD.box rfl)
  clear hD ho hsz hf hoT
  go_enter Tryz.func112, Tryz.ntmps112
  go_upto_if 23 with (first
    | (go_at_call 12; (with_reducible refine HF.out.mono ?_); rintro z w1 ⟨rfl, o1⟩; have HD1 := Lib.hid (HD.out.old o1); have HO1 := Lib.hid (HO.out.trans o1); have HOw := Lib.hid o1)
    | (refine wpList_lookup_mv_ok rfl _ _ _ rfl 9 9 (string_keyed Tryz.underlying9) Value.string Tryz.underlying82 (.string ⟨#[]⟩) zeroStrK tb _ _ rfl HD1.out.mt f _ rfl hkf.out (oT.map Value.string) (by rw [HoT.out]) ?_))
  go_cut [7] (fun z wx => z = .string f ∧ BD w0 wx bb tb (k + 1) lv t (rawOf M) (termO (M ++ [m])) own ∧ Old w0 wx ∧ Fr own own bb tb w wx)
  case first =>
    cases oT with
    | some x =>
      have hq : termO (M ++ [m]) = termO M := termO_oldN (x := x) (by rw [Hf.out]; exact HoT.out)
      go_wp2_with fail
      go_meet
      exact ⟨rfl, by rw [hq]; exact HD1.out.mono (by omega), HO1.out, Fr.of_old HOw.out⟩
    | none =>
      have hq : termO (M ++ [m]) = fun q => if q = f then some m.term else termO M q := by rw [← Hf.out]; exact termO_newN (by rw [Hf.out]; exact HoT.out)
      have c1' := fun V (o : Old w1 V) => c1 V (o1.trans o)
      go_wp2_with (refine wpList_update_mv rfl _ _ _ _ rfl 9 9 (string_keyed Tryz.underlying9) Value.string (fun _ _ => str_kv) Tryz.underlying82 tb _ _ rfl HD1.out.mt (by omega) f _ rfl hkf.out (.string m.term) rfl ?_; intro w2 hM2 hg2)
      go_meet
      refine ⟨rfl, ?_, HO1.out.grown hg2 fun j e => Option.some.inj e ▸ HD1.out.t0, (KeptX.of_old HOw.out).trans (KeptX.of_grown hg2 fun j e => .inr (.inr (Option.some.inj e).symm)), fun _ _ => rfl⟩
      refine HD1.out.putM hg2 ?_
      rw [hq, show (fun x => (if x = f then some m.term else termO M x).map Value.string) = fun q => if q = f then some (Value.string m.term) else (termO M q).map Value.string from by
        funext q
        split <;> rfl]
      exact hM2
  case rest =>
    obtain ⟨w2, hw2⟩ : ∃ x, x = wc := ⟨wc, rfl⟩
    subst hw2
    obtain ⟨rfl, hD2, ho2, hfr2⟩ := hcut
    have HFr := Lib.hid hfr2
    have HD2 := Lib.hid hD2
    have HO2 := Lib.hid ho2
    obtain ⟨a, cap, rfl, hc1, hc2⟩ := hD2.br.row.form
    have hlen := hD2.br.len
    have Hlen := Lib.hid hlen
    have htM : t.length ≤ 1000000 := by omega
    have b0 := later (show w2.cell? ⟨bb, 0, none⟩ = some (.slice a t.length cap) from cells_at (i := 0) hD2.box rfl)
    have b1 := later (show w2.cell? ⟨bb, 1, none⟩ = some (.map (some tb)) from cells_at (i := 1) hD2.box rfl)
    have Hcell : Hid (0 < t.length → ∃ g, a = some ⟨g, 0, none⟩ ∧ ∀ (i : Nat) (e : En), (rawOf M)[i]? = some e → (∀ V, Old w2 V → V.cell? ⟨g, i * 4, none⟩ = some (.string e.term)) ∧ ∀ V, Old w2 V → V.cell? ⟨g, i * 4 + 1, none⟩ = some (.string e.sub)) := Lib.hid fun h => by
      obtain ⟨g, rfl, _, _⟩ := hD2.br.row.block h
      refine ⟨g, rfl, fun i e he => ?_⟩
      obtain ⟨x, hx⟩ : ∃ x, t[i]? = some x := ⟨_, List.getElem?_eq_getElem (by have := (List.getElem?_eq_some_iff.1 he).1; omega)⟩
      obtain ⟨h1, h2, _⟩ := hD2.br.ent i x e hx he
      refine ⟨later ?_, later ?_⟩
      · have := hD2.br.row.cell (j := 0) hx rfl
        rw [h1] at this; exact this
      · have := hD2.br.row.cell (j := 1) hx rfl
        rw [h2] at this; exact this
    have B0 := Lib.hid b0
    have B1 := Lib.hid b1
    clear hD2 ho2 hfr2 HF HD HO c1 HoT b1 hlen hM
    go_upto_region 6 with fail
    clear b0
    go_loopw [35] (fun jv wx => ∃ j : Nat, jv = .int .i64 j ∧ j ≤ t.length ∧ (∀ (i : Nat) (e : En), i < j → (rawOf M)[i]? = some e → ¬ plE e = m.pl) ∧ Old w2 wx) (fun jv _ => t.length - (intOf jv).toNat)
    case atStart => exact ⟨0, rfl, Nat.zero_le _, fun i e hi => absurd hi (Nat.not_lt_zero i), Old.refl _⟩
    case round =>
      obtain ⟨j, rfl, hj, hno, hoj⟩ := hrel
      have Hno := Lib.hid hno
      clear hno
      by_cases hlt : j < t.length
      · have hj1 : (j : Int) < t.length := by omega
        obtain ⟨e, he⟩ : ∃ e, (rawOf M)[j]? = some e := ⟨_, List.getElem?_eq_getElem (by have := Hlen.out; omega)⟩
        obtain ⟨g, rfl, hcell⟩ := Hcell.out (by omega)
        obtain ⟨h0, h1⟩ := hcell j e he
        have b0 := fun V (o : Old wr V) => B0.out V (hoj.trans o)
        have e0 := fun V (o : Old wr V) => h0 V (hoj.trans o)
        have e1 := fun V (o : Old wr V) => h1 V (hoj.trans o)
        have HLe := Lib.hid (HL.out e (List.mem_of_getElem? he))
        have Hz : Hid (cmpP (foldS e.term, foldS e.sub) (foldS m.term, foldS m.sub) = 0 ↔ plE e = m.pl) := Lib.hid cmpP_zero
        have He := Lib.hid he
        generalize cmpP (foldS e.term, foldS e.sub) (foldS m.term, foldS m.sub) = cz at *
        clear hcell h0 h1 he
        go_upto_region 8 with fail
        refine wp_region_old (Old.refl _) (by kernel_rfl) (by kernel_rfl) ?_
        repeat (go_big_quiet_step (with_reducible exact Calls.in_old (HLe.out _)))
        refine wpQuiet_nil ?_
        rintro ⟨wq, hq⟩
        dsimp only
        have hoq := hoj.trans hq
        clear b0 e0 e1
        by_cases hc : cz = 0
        · subst hc
          have hpl := Hz.out.1 rfl
          have hset := Lib.hid (raw_found He.out hpl)
          go_wp2_with fail
          go_ret
          exact ⟨⟨j, rawOf M, _, t, own, e, rfl, HD2.out.old hoq, He.out, hset.out.symm, HFr.out.trans (Fr.of_old hoq)⟩, HO2.out.trans hoq⟩
        · have Hn : Hid (∀ (i : Nat) (y : En), i < j + 1 → (rawOf M)[i]? = some y → ¬ plE y = m.pl) := Lib.hid fun i y hi hy => by
            rcases Nat.lt_or_ge i j with h | h
            · exact Hno.out i y h hy
            · obtain rfl : i = j := by omega
              obtain rfl := Option.some.inj (He.out.symm.trans hy)
              exact fun k => hc (Hz.out.2 k)
          go_wp2_with fail
          go_roundw
          case rel => exact ⟨j + 1, by go_num, by omega, Hn.out, hoq⟩
          case measure => simp [intOf]; omega
      · obtain rfl : j = t.length := by omega
        have hj1 : ¬ (t.length : Int) < t.length := by omega
        have hfresh : m.pl ∉ places M := raw_none fun i e he => Hno.out i e (by have := (List.getElem?_eq_some_iff.1 he).1; have := Hlen.out; omega) he
        have Hfr := Lib.hid (raw_fresh hfresh)
        obtain ⟨tt, htt⟩ : ∃ tt, termO (M ++ [m]) f = some tt := Option.isSome_iff_exists.1 (termO_some.2 ⟨m, by simp, Hf.out⟩)
        rw [show m.pl.1 = f from Hf.out, htt] at Hfr
        have HDr := Lib.hid (HD2.out.old hoj)
        have HLk : Hid (∀ V, Old wr V → (Instr.lookup 82 (.map (some tb)) (.string f) false).run Tryz.prog V = .ok (.string tt) V) := Lib.hid fun V o => by
          have := (HDr.out.mt.old o).look (kv := Value.string) (string_keyed Tryz.underlying9) Tryz.underlying82 zeroStrK hkf.out
          rw [htt] at this
          exact this
        have hlk := HLk.out
        have b0 := fun V (o : Old wr V) => B0.out V (hoj.trans o)
        have b1 := fun V (o : Old wr V) => B1.out V (hoj.trans o)
        have Hor := Lib.hid (HO2.out.trans hoj)
        clear hfresh htt Hno Hcell HL
        have ds : Old wr (wr.alloc (.cells #[.string tt, .string m.sub, .slice none 0 0, .slice none 0 0] 45)).drew := ((Old.refl wr).alloc _).drew
        have dz := (Old.refl wr).drew
        have hbo := HDr.out.fb
        have hro := fun j (hj : (Value.slice a t.length cap).ownBlock = some j) => HDr.out.br.out j hj
        have hbl := HDr.out.blt
        go_upto_region 11 with fail
        go_region_law (refine step_append_at (c := erE) (w0 := w0) (by rfl) _ _ 25 (by rfl) 45 Tryz.underlying25 _ infoEnN rfl (Nat.zero_lt_succ 3) (.slice a t.length cap) t [(⟨tt, m.sub, (none, 0, 0), (none, 0, 0)⟩ : Er)] (by rfl) (HDr.out.br.row.old ds) _ (by rfl) ((Recs.oneAt (c := erE) wr 45 (⟨tt, m.sub, (none, 0, 0), (none, 0, 0)⟩ : Er) rfl).old (Old.refl _).drew) (Nat.zero_lt_succ 0) (by simp; omega) (by simp; omega) (Nat.le_trans HDr.out.br.sz (Old.size ds)) ?_; intro g5 cp5 w5 hown5 hg5 hat5 hlt5; have hbx : w5.heap[bb]? = some (.cells #[.slice a t.length cap, .map (some tb)] 162 (0, 0)) := (obj_grownK (obj_oldK HDr.out.box ds) hg5 (fun e => absurd (hro bb e.symm) (by rw [hbo]; simp))); have hS5 := And.intro (cells_at (i := 0) hbx rfl) (cells_at (i := 1) hbx rfl); have bz := frozen_at hbx 0; have HA5 := Lib.hid (HDr.out.app ds hg5 hown5 hat5); have HG5 := Lib.hid (Hor.out.trans ds); have HG6 := Lib.hid hg5; clear hown5 hg5 hat5 hlt5)
        all_goals
          have hA6 : BD w0 (w5.setCell ⟨bb, 0, none⟩ (.slice (some ⟨g5, 0, none⟩) (t.length + 1) cp5)) bb tb (k + 1) (.slice (some ⟨g5, 0, none⟩) (t.length + 1) cp5) (t ++ [(⟨tt, m.sub, (none, 0, 0), (none, 0, 0)⟩ : Er)]) (rawOf M ++ [⟨tt, m.sub, [], []⟩]) (termO (M ++ [m])) (ownN wr.heap.size (-1) own) := HA5.out
          have HA6 := Lib.hid hA6
          have hO6 : Old w0 (w5.setCell ⟨bb, 0, none⟩ (.slice (some ⟨g5, 0, none⟩) (t.length + 1) cp5)) := (HG5.out.grown HG6.out fun j e => (World.ownsRow.lt HDr.out.br.row j e).1).setCell HDr.out.b0 _
          have bx6 := later (cells_at (i := 0) hA6.box rfl)
          have hw1 : IntKind.i64.wrap (((t.length + 1 : Nat) : Int) - 1) = (t.length : Int) := by rw [show ((t.length + 1 : Nat) : Int) - 1 = (t.length : Int) from by omega]; exact IntWalk.i64_in _ (by omega)
          have hw2 : IntKind.i64.wrap ((t.length : Int) + 1 - 1) = (t.length : Int) := by rw [show (t.length : Int) + 1 - 1 = (t.length : Int) from by omega]; exact IntWalk.i64_in _ (by omega)
          have HF6 : Hid (Fr own (ownN wr.heap.size (-1) own) bb tb w (w5.setCell ⟨bb, 0, none⟩ (.slice (some ⟨g5, 0, none⟩) (t.length + 1) cp5))) := Lib.hid (HFr.out.trans ((Fr.of_old hoj).trans ⟨((KeptX.of_old ds).trans (KeptX.of_grown HG6.out fun j e => .inl (by rw [hro j e]; simp))).trans (KeptX.setCell _ bb 0 _ (.inr (.inl rfl))), fun j hj => ownN_old hj⟩))
          generalize w5.setCell ⟨bb, 0, none⟩ (.slice (some ⟨g5, 0, none⟩) (t.length + 1) cp5) = w6 at *
          clear hA6 HA5 HG5 HG6 hS5 bz hbx b0 b1 hlk
          go_wp2_with fail
          go_ret
          refine ⟨⟨t.length, _, _, _, _, ⟨tt, m.sub, [], []⟩, rfl, HA6.out, ?_, ?_, HF6.out⟩, hO6⟩
          · rw [Hlen.out, List.getElem?_append_right (Nat.le_refl _), Nat.sub_self]; rfl
          · rw [Hfr.out, Hlen.out, List.set_append_right _ _ (Nat.le_refl _), Nat.sub_self]; rfl
end Go.Proofs.YtohngjkedhpikaaGreatDoor
/-
  KEYWORD, RP: the document's builder: a topic is put in, a see is put in its place.
-/
namespace Go.Proofs.YtohngjkedhpikaaGreatDoor
open Go.RowKit Go.Maps
attribute [local go_sem] Old.refl Old.alloc Old.drew Old.setCell OldW.old

def RetBD (w0 w w' : World) (bb tb k : Nat) (own : Nat → Option Int) (L : List En) (T : ByteArray → Option ByteArray) (e : Ending) : Prop := ∃ (lv : Value) (t : List Er) (own' : Nat → Option Int), e = .returned (.tuple #[]) ∧ BD w0 w' bb tb k lv t L T own' ∧ Fr own own' bb tb w w'
theorem set_self {α : Type} {L : List α} {i : Nat} {x : α} (h : L[i]? = some x) : L.set i x = L := by
  apply List.ext_getElem?
  intro j
  rw [List.getElem?_set]
  by_cases e : i = j
  · subst e
    rw [if_pos rfl, if_pos (List.getElem?_eq_some_iff.1 h).1, h]
  · rw [if_neg e]
theorem oneI (w : World) (n : Int) : Recs intE (w.alloc (.cells #[.int .i64 n] 3)) (.slice (some ⟨w.heap.size, 0, none⟩) 1 1) [n] := Recs.oneAt (c := intE) w 3 n rfl
/-- behind an append to an entry's topics: what the store meets, and what it leaves -/
theorem BD.growT {w0 w Z W : World} {bb tb k go n cap : Nat} {t : List Er} {L : List En} {T : ByteArray → Option ByteArray} {own : Nat → Option Int} (h : BD w0 w bb tb k (.slice (some ⟨go, 0, none⟩) n cap) t L T own) (ho : Old w0 w) {i : Nat} {x : Er} {e : En} (hx : t[i]? = some x) (he : L[i]? = some e)
    (oZ : Old w Z) (hg : Z.grownBy W x.s2.v.ownBlock) {g cp : Nat} {y : Int} (hown : OwnS intE 3 w0 W (.slice (some ⟨g, 0, none⟩) (e.topics.length + 1) cp) (e.topics ++ [y])) (hat : x.s2.v.ownBlock = some g ∨ g = Z.heap.size) :
    W.cell? ⟨bb, 0, none⟩ = some (.slice (some ⟨go, 0, none⟩) n cap) ∧ W.cell? ⟨go, i * 4 + 2, none⟩ = some x.s2.v ∧ W.frozen? ⟨go, i * 4 + 2, none⟩ = false ∧
      (∃ t' own', BD w0 (W.setCell ⟨go, i * 4 + 2, none⟩ (.slice (some ⟨g, 0, none⟩) (e.topics.length + 1) cp)) bb tb k (.slice (some ⟨go, 0, none⟩) n cap) t' (L.set i { e with topics := e.topics ++ [y] }) T own' ∧ Fr own own' bb tb w (W.setCell ⟨go, i * 4 + 2, none⟩ (.slice (some ⟨g, 0, none⟩) (e.topics.length + 1) cp))) ∧
      Old w0 (W.setCell ⟨go, i * 4 + 2, none⟩ (.slice (some ⟨g, 0, none⟩) (e.topics.length + 1) cp)) := by
  obtain ⟨h1, h2, h3, h4, h5, h6⟩ := h.br.ent i x e hx he
  have hgo := h.br.out go rfl
  have hoZ := oZ.size
  have hbx : W.heap[bb]? = some (.cells #[.slice (some ⟨go, 0, none⟩) n cap, .map (some tb)] 162 (0, 0)) := obj_grownK (obj_oldK h.box oZ) hg fun e => absurd (h5 bb e.symm) (by rw [h.fb]; simp)
  have hk : KeptX (fun j => own j = some (2 * (i : Int)) ∨ w.heap.size ≤ j) w W := (KeptX.of_old oZ).trans (KeptX.of_grown hg fun j e => .inl (h5 j e))
  have hrow : OwnS erE 45 w0 W (.slice (some ⟨go, 0, none⟩) n cap) t := h.br.row.kx hk fun j hj c => by
    have hl := ownsB_lt h.br.row hj
    have hjo := h.br.out j hj
    rcases c with c | c
    · rw [hjo] at c
      have := Option.some.inj c
      omega
    · omega
  have hput := h.putT hx he hk (s := (some ⟨g, 0, none⟩, e.topics.length + 1, cp)) (U := e.topics ++ [y]) (ownI_iff.1 hown) fun j hj hl => by
    obtain rfl : g = j := Option.some.inj hj
    rcases hat with c | c
    · exact h5 g c
    · omega
  refine ⟨cells_at (i := 0) hbx rfl, hrow.cell (j := 2) hx rfl, hrow.frozen (i * 4 + 2), ⟨_, _, hput, (hk.mono fun j hj c => .inl (by rcases c with c | c <;> first | (rw [c]; simp) | omega)).trans (KeptX.setCell _ go _ _ (.inl (by rw [hgo]; simp))), fun j hj => ownN_old hj⟩, ?_⟩
  exact ((ho.trans oZ).grown hg fun j e => (World.ownsRow.lt h3 j e).1).setCell (h.br.base go _ hgo) _
set_option maxRecDepth 100000 in
set_option maxHeartbeats 3200000 in
theorem topic_any (w0 w : World) (bb tb k : Nat) (lv : Value) (t : List Er) (L : List En) (T : ByteArray → Option ByteArray) (own : Nat → Option Int) (i : Nat) (e0 : En) (n : Int) (hD : BD w0 w bb tb k lv t L T own) (ho : Old w0 w) (he : L[i]? = some e0) (hl : L.length ≤ 1000000) (ht : e0.topics.length ≤ 1000000) :
    Calls Tryz.prog 111 #[.pointer (some ⟨bb, 0, none⟩), .int .i64 i, .int .i64 n] w fun e w' => RetBD w0 w w' bb tb k own (L.set i { e0 with topics := topA e0.topics n }) T e ∧ Old w0 w' := by
  have hil := (List.getElem?_eq_some_iff.1 he).1
  have hlen := hD.br.len
  have hit : i < t.length := by omega
  have htl : t.length ≤ 1000000 := by omega
  obtain ⟨x, hx⟩ : ∃ x, t[i]? = some x := ⟨_, List.getElem?_eq_getElem hit⟩
  obtain ⟨h1, h2, h3, h4, h5, h6⟩ := hD.br.ent i x e0 hx he
  obtain ⟨a, cap, rfl, hc1, hc2⟩ := hD.br.row.form
  obtain ⟨go, rfl, hgo1, hgo2⟩ := hD.br.row.block (by omega)
  have hgo := hD.br.out go rfl
  obtain ⟨xt, xs, ⟨aT, nT, cT⟩, ⟨aS, nS, cS⟩⟩ := x
  obtain ⟨aT', cT', eT, hT1, hT2⟩ := ownsRow_form h3
  obtain ⟨rfl, rfl, rfl⟩ := Value.slice.inj eT
  have HD := Lib.hid hD
  have HO := Lib.hid ho
  have H3 := Lib.hid h3
  have H5 := Lib.hid h5
  have He := Lib.hid he
  have Hx := Lib.hid hx
  have b0 := later (show w.cell? ⟨bb, 0, none⟩ = some (.slice (some ⟨go, 0, none⟩) t.length cap) from cells_at (i := 0) hD.box rfl)
  have r2 := later (show w.cell? ⟨go, i * 4 + 2, none⟩ = some (.slice aT e0.topics.length cT) from hD.br.row.cell (j := 2) hx rfl)
  have hi1 : (i : Int) < t.length := by omega
  have Hgo := Lib.hid hgo
  have hgb : go ≠ bb := fun e => by have := hD.fb; rw [← e, hgo] at this; cases this
  have Hlast : Hid (¬ e0.topics = [] → ∃ gT, aT = some ⟨gT, 0, none⟩ ∧ w.cell? ⟨gT, e0.topics.length - 1, none⟩ = some (.int .i64 (ix e0.topics (e0.topics.length - 1)))) := Lib.hid fun h => by
    have hp : 0 < e0.topics.length := List.length_pos_iff.2 h
    obtain ⟨gT, rfl, _, _⟩ := OwnI.block h3 hp
    exact ⟨gT, rfl, OwnI.cell h3 (by omega)⟩
  clear hD ho h1 h2 h3 h4 h5 h6 hx he hlen hil hl eT hgo
  by_cases hlast : e0.topics.getLast? = some n
  · have htop : Hid (topA e0.topics n = e0.topics) := Lib.hid (if_pos hlast)
    have hne : ¬ e0.topics = [] := fun h => by rw [h] at hlast; cases hlast
    obtain ⟨gT, rfl, cl⟩ := Hlast.out hne
    have hlx : ix e0.topics (e0.topics.length - 1) = n := by
      rw [List.getLast?_eq_getElem?] at hlast
      unfold ix
      simp [List.getD, hlast]
    rw [hlx] at cl
    have hp : 0 < e0.topics.length := List.length_pos_iff.2 hne
    have hp0 : ((e0.topics.length : Int) == 0) = false := by rw [beq_eq_false_iff_ne]; omega
    have hw1 : IntKind.i64.wrap ((e0.topics.length : Int) - 1) = ((e0.topics.length - 1 : Nat) : Int) := by rw [show (e0.topics.length : Int) - 1 = ((e0.topics.length - 1 : Nat) : Int) by omega]; exact IntWalk.i64_in _ (by omega)
    have hi2 : ((e0.topics.length - 1 : Nat) : Int) < e0.topics.length := by omega
    have hss := Lib.hid (set_self He.out)
    clear hlast hne hlx Hlast
    go_enter Tryz.func111, Tryz.ntmps111
    go_wp2_with fail
    go_end0
    exact ⟨⟨_, _, _, rfl, by rw [htop.out]; rw [show ({ e0 with topics := e0.topics } : En) = e0 from rfl, hss.out]; exact HD.out, Fr.of_old (Old.refl _)⟩, HO.out⟩
  · have htop : Hid (topA e0.topics n = e0.topics ++ [n]) := Lib.hid (if_neg hlast)
    have hpass : Hid (e0.topics = [] ∨ ∃ gT, aT = some ⟨gT, 0, none⟩ ∧ w.cell? ⟨gT, e0.topics.length - 1, none⟩ = some (.int .i64 (ix e0.topics (e0.topics.length - 1))) ∧ ¬ ix e0.topics (e0.topics.length - 1) = n ∧ 0 < e0.topics.length) := Lib.hid (by
      by_cases hne : e0.topics = []
      · exact .inl hne
      · obtain ⟨gT, h1, h2⟩ := Hlast.out hne
        refine .inr ⟨gT, h1, h2, fun h => hlast ?_, List.length_pos_iff.2 hne⟩
        have hp : 0 < e0.topics.length := List.length_pos_iff.2 hne
        rw [List.getLast?_eq_getElem?, List.getElem?_eq_getElem (by omega)]
        rw [← h]
        unfold ix
        simp [List.getD, show e0.topics.length - 1 < e0.topics.length by omega])
    clear hlast Hlast
    go_enter Tryz.func111, Tryz.ntmps111
    go_upto_region 1 with fail
    go_cut [27] (fun u wy => u = .bool true ∧ w = wy)
    case first =>
      rcases hpass.out with hnil | ⟨gT, hgT, cl, hne, hp⟩
      · have hp0 : ((e0.topics.length : Int) == 0) = true := by rw [beq_iff_eq, hnil]; rfl
        clear hnil hpass
        go_wp2_with fail
        go_meet
        exact ⟨rfl, by trivial⟩
      · subst hgT
        have hp0 : ((e0.topics.length : Int) == 0) = false := by rw [beq_eq_false_iff_ne]; omega
        have hw1 : IntKind.i64.wrap ((e0.topics.length : Int) - 1) = ((e0.topics.length - 1 : Nat) : Int) := by rw [show (e0.topics.length : Int) - 1 = ((e0.topics.length - 1 : Nat) : Int) by omega]; exact IntWalk.i64_in _ (by omega)
        have hi2 : ((e0.topics.length - 1 : Nat) : Int) < e0.topics.length := by omega
        clear hpass
        generalize ix e0.topics (e0.topics.length - 1) = z at *
        have hzn : (z != n) = true := by rw [bne_iff_ne]; exact hne
        go_wp2_with fail
        go_meet
        exact ⟨rfl, by trivial⟩
    case rest =>
      obtain ⟨rfl, rfl⟩ := hcut
      clear hpass
      have ds : Old w (w.alloc (.cells #[.int .i64 n] 3)).drew := ((Old.refl w).alloc _).drew
      have hbo := HD.out.fb
      have hro := fun j (hj : (Value.slice aT e0.topics.length cT).ownBlock = some j) => H5.out j hj
      go_upto_region 2 with fail
      go_region_law (refine step_append_at (c := intE) (w0 := w0) (by rfl) _ _ 42 (by rfl) 3 Tryz.underlying42 (.int .i64 0) infoIntK rfl (Nat.zero_lt_succ 0) (.slice aT e0.topics.length cT) e0.topics [n] (by rfl) ((ownI_iff.2 H3.out).old ds) _ (by rfl) ((oneI w n).old (Old.refl _).drew) (Nat.zero_lt_succ 0) (by simp; omega) (by simp; omega) (Nat.le_trans HD.out.br.sz (Old.size ds)) ?_; intro g5 cp5 w5 hown5 hg5 hat5 hlt5; obtain ⟨bc5, rc5, rz5, hP5, hO5⟩ := HD.out.growT HO.out Hx.out He.out ds hg5 hown5 hat5; have HP5 := Lib.hid hP5; have HO5 := Lib.hid hO5; clear hown5 hg5 hat5 hlt5 hP5 hO5)
      all_goals
        go_wp2_with fail
        go_end0
        obtain ⟨t', own', h, hfr⟩ := HP5.out
        exact ⟨⟨_, t', own', rfl, by rw [htop.out]; exact h, hfr⟩, HO5.out⟩
end Go.Proofs.YtohngjkedhpikaaGreatDoor
/-
  KEYWORD, RQ: the document's builder: a see is put in its place.
-/
namespace Go.Proofs.YtohngjkedhpikaaGreatDoor
open Go.RowKit Go.Maps
attribute [local go_sem] Old.refl Old.alloc Old.drew Old.setCell OldW.old

/-- behind what was done to the row of an entry's sees: what the store meets, and what it leaves -/
theorem BD.growS {w0 w W : World} {bb tb k go n cap : Nat} {t : List Er} {L : List En} {T : ByteArray → Option ByteArray} {own : Nat → Option Int} (h : BD w0 w bb tb k (.slice (some ⟨go, 0, none⟩) n cap) t L T own) (ho : Old w0 w) {i : Nat} {x : Er} {e : En} (hx : t[i]? = some x) (he : L[i]? = some e)
    (hk : KeptX (fun j => own j = some (2 * (i : Int) + 1) ∨ w.heap.size ≤ j) w W) {g m cp : Nat} {U : List ByteArray} (hown : OwnS txE 9 w0 W (.slice (some ⟨g, 0, none⟩) m cp) U) (hat : g < w.heap.size → own g = some (2 * (i : Int) + 1)) :
    W.cell? ⟨bb, 0, none⟩ = some (.slice (some ⟨go, 0, none⟩) n cap) ∧ W.cell? ⟨go, i * 4 + 3, none⟩ = some x.s3.v ∧ W.frozen? ⟨go, i * 4 + 3, none⟩ = false ∧
      (∃ t' own', BD w0 (W.setCell ⟨go, i * 4 + 3, none⟩ (.slice (some ⟨g, 0, none⟩) m cp)) bb tb k (.slice (some ⟨go, 0, none⟩) n cap) t' (L.set i { e with sees := U }) T own' ∧ Fr own own' bb tb w (W.setCell ⟨go, i * 4 + 3, none⟩ (.slice (some ⟨g, 0, none⟩) m cp))) ∧
      Old w0 (W.setCell ⟨go, i * 4 + 3, none⟩ (.slice (some ⟨g, 0, none⟩) m cp)) := by
  have hgo := h.br.out go rfl
  have hbl := h.blt
  have hbx : W.heap[bb]? = some (.cells #[.slice (some ⟨go, 0, none⟩) n cap, .map (some tb)] 162 (0, 0)) := by
    rw [hk.block bb hbl fun c => by
      rcases c with c | c
      · rw [h.fb] at c; cases c
      · omega]
    exact h.box
  have hrow : OwnS erE 45 w0 W (.slice (some ⟨go, 0, none⟩) n cap) t := h.br.row.kx hk fun j hj c => by
    have hl := ownsB_lt h.br.row hj
    have hjo := h.br.out j hj
    rcases c with c | c
    · rw [hjo] at c
      have := Option.some.inj c
      omega
    · omega
  have hput := h.putS hx he hk (s := (some ⟨g, 0, none⟩, m, cp)) (U := U) hown fun j hj hl => by
    obtain rfl : g = j := Option.some.inj hj
    exact hat hl
  refine ⟨cells_at (i := 0) hbx rfl, hrow.cell (j := 3) hx rfl, hrow.frozen (i * 4 + 3), ⟨_, _, hput, (hk.mono fun j hj c => .inl (by rcases c with c | c <;> first | (rw [c]; simp) | omega)).trans (KeptX.setCell _ go _ _ (.inl (by rw [hgo]; simp))), fun j hj => ownN_old hj⟩, ?_⟩
  refine (kx_old ho hk fun j hj c => ?_).setCell (h.br.base go _ hgo) _
  rcases c with c | c
  · exact h.br.base j _ c
  · omega
set_option maxRecDepth 100000 in
set_option maxHeartbeats 6400000 in
theorem see_any (w0 w : World) (bb tb k : Nat) (lv : Value) (t : List Er) (L : List En) (T : ByteArray → Option ByteArray) (own : Nat → Option Int) (i : Nat) (e0 : En) (aim : ByteArray) (hD : BD w0 w bb tb k lv t L T own) (ho : Old w0 w) (he : L[i]? = some e0) (hl : L.length ≤ 1000000) (ht : e0.sees.length ≤ 1000000)
    (hz : aim.size ≤ 4194304 ∧ (foldS aim).size ≤ 4194304) (hsz : ∀ s ∈ e0.sees, s.size ≤ 4194304 ∧ (foldS s).size ≤ 4194304) :
    Calls Tryz.prog 113 #[.pointer (some ⟨bb, 0, none⟩), .int .i64 i, .string aim] w fun e w' => RetBD w0 w w' bb tb k own (L.set i { e0 with sees := seeA e0.sees aim }) T e ∧ Old w0 w' := by
  have hil := (List.getElem?_eq_some_iff.1 he).1
  have hlen := hD.br.len
  have hit : i < t.length := by omega
  have htl : t.length ≤ 1000000 := by omega
  obtain ⟨x, hx⟩ : ∃ x, t[i]? = some x := ⟨_, List.getElem?_eq_getElem hit⟩
  obtain ⟨h1, h2, h3, h4, h5, h6⟩ := hD.br.ent i x e0 hx he
  obtain ⟨a, cap, rfl, hc1, hc2⟩ := hD.br.row.form
  obtain ⟨go, rfl, hgo1, hgo2⟩ := hD.br.row.block (by omega)
  obtain ⟨xt, xs, ⟨aT, nT, cT⟩, ⟨aS, nS, cS⟩⟩ := x
  obtain ⟨aS', cS', eS, hS1, hS2⟩ := h4.form
  obtain ⟨rfl, rfl, rfl⟩ := Value.slice.inj eS
  have HD := Lib.hid hD
  have HO := Lib.hid ho
  have H4 := Lib.hid h4
  have H6 := Lib.hid h6
  have He := Lib.hid he
  have Hx := Lib.hid hx
  have B0 := Lib.hid (later (show w.cell? ⟨bb, 0, none⟩ = some (.slice (some ⟨go, 0, none⟩) t.length cap) from cells_at (i := 0) hD.box rfl))
  have R3 := Lib.hid (later (show w.cell? ⟨go, i * 4 + 3, none⟩ = some (.slice aS e0.sees.length cS) from hD.br.row.cell (j := 3) hx rfl))
  have hi1 : (i : Int) < t.length := by omega
  obtain ⟨hz1, hz2⟩ := hz
  have HFa := Lib.hid (fun V => RFold_any aim V hz1)
  have Hsz := Lib.hid hsz
  obtain ⟨bt, ot, hat3, htx⟩ := (Txts.of_recs h4.recs).at1
  have Hat3 := Lib.hid hat3
  have Htx := Lib.hid htx
  have hS1' : e0.sees.length ≤ cS := hS1
  have hS2' : cS ≤ 9223372036854775807 := hS2
  clear hD ho h1 h2 h3 h4 h5 h6 hx he hlen hil hl eS hsz hat3 htx hS1 hS2
  have b0 := B0.out
  have r3 := R3.out
  go_enter Tryz.func113, Tryz.ntmps113
  go_upto_region 1 with fail
  clear b0 r3
  go_loopw [19] (fun jv wx => ∃ j : Nat, jv = .int .i64 j ∧ j ≤ e0.sees.length ∧ (∀ (m : Nat) (s : ByteArray), m < j → e0.sees[m]? = some s → ¬ foldS s = foldS aim) ∧ Old w wx) (fun jv _ => e0.sees.length - (intOf jv).toNat)
  case atStart => exact ⟨0, rfl, Nat.zero_le _, fun m s hm => absurd hm (Nat.not_lt_zero m), Old.refl _⟩
  case round =>
    obtain ⟨j, rfl, hj, hno, hoj⟩ := hrel
    have Hno := Lib.hid hno
    clear hno
    by_cases hlt : j < e0.sees.length
    · have hj1 : (j : Int) < e0.sees.length := by omega
      obtain ⟨s, hs⟩ : ∃ s, e0.sees[j]? = some s := ⟨_, List.getElem?_eq_getElem hlt⟩
      have hsm := List.mem_of_getElem? hs
      have cs := Htx.out j s hs wr hoj
      have haS : aS = some ⟨bt, ot, none⟩ := Hat3.out (by omega)
      subst haS
      have HFs := Lib.hid (fun V => RFold_any s V (Hsz.out s hsm).1)
      by_cases hc : foldS s = foldS aim
      · have htop : Hid (seeA e0.sees aim = e0.sees) := Lib.hid (if_pos ⟨s, hsm, hc⟩)
        have hss := Lib.hid (set_self He.out)
        rw [hc] at HFs
        generalize foldS aim = fa at *
        have hb := str_eqt (rfl : fa = fa)
        clear hs hsm hc Hno
        go_wp2_with (first
          | (go_at_call 12; (with_reducible refine (HFs.out _).mono ?_); rintro z w5 ⟨rfl, o5⟩)
          | (go_at_call 12; (with_reducible refine (HFa.out _).mono ?_); rintro z w6 ⟨rfl, o6⟩))
        (try simp only [Exit.inBlock, Exit.then])
        refine bodyPost_ret (results_none rfl _ _ _) rfl ?_
        have hq := hoj.trans (o5.trans o6)
        exact ⟨⟨_, _, _, rfl, by rw [htop.out]; rw [show ({ e0 with sees := e0.sees } : En) = e0 from rfl, hss.out]; exact HD.out.old hq, Fr.of_old hq⟩, HO.out.trans hq⟩
      · have hb := str_eqf hc
        have Hn : Hid (∀ (m : Nat) (z : ByteArray), m < j + 1 → e0.sees[m]? = some z → ¬ foldS z = foldS aim) := Lib.hid fun m z hm hz => by
          rcases Nat.lt_or_ge m j with h | h
          · exact Hno.out m z h hz
          · obtain rfl : m = j := by omega
            obtain rfl := Option.some.inj (hs.symm.trans hz)
            exact hc
        clear hs hsm hc
        generalize foldS s = fs at *
        generalize hfa : foldS aim = fa at *
        go_wp2_with (first
          | (go_at_call 12; (with_reducible refine (HFs.out _).mono ?_); rintro z w5 ⟨rfl, o5⟩)
          | (go_at_call 12; (with_reducible refine (HFa.out _).mono ?_); rintro z w6 ⟨rfl, o6⟩))
        go_roundw
        case rel => exact ⟨j + 1, by go_num, by omega, Hn.out, hoj.trans (o5.trans o6)⟩
        case measure => simp [intOf]; omega
    · obtain rfl : j = e0.sees.length := by omega
      have hj1 : ¬ (e0.sees.length : Int) < e0.sees.length := by omega
      have htop : Hid (seeA e0.sees aim = srtStep cmpS e0.sees aim) := Lib.hid (if_neg (by
        rintro ⟨s, hs, hc⟩
        obtain ⟨m, hm⟩ := List.getElem?_of_mem hs
        exact Hno.out m s (List.getElem?_eq_some_iff.1 hm).1 hm hc))
      have HD1 := Lib.hid (HD.out.old hoj)
      have HO1 := Lib.hid (HO.out.trans hoj)
      have b0 := fun V (o : Old wr V) => B0.out V (hoj.trans o)
      have r3 := fun V (o : Old wr V) => R3.out V (hoj.trans o)
      have hrow := H4.out.old hoj
      have hro := fun j (hj : (Value.slice aS e0.sees.length cS).ownBlock = some j) => H6.out j hj
      have hbs := HD1.out.br.sz
      clear Hno HD HO
      go_upto_region 6 with (at_builtin; go_loud (refine wpList_append_at (c := txE) (w0 := w0) rfl _ _ 43 rfl 9 Tryz.underlying43 (.string ⟨#[]⟩) infoStrK rfl (Nat.zero_lt_succ 0) (.slice aS e0.sees.length cS) e0.sees [aim] rfl (OwnS.old hrow ((Old.refl wr).alloc (.cells #[.string aim] 9))) _ rfl (Recs.oneAt (c := txE) wr 9 aim rfl) (Nat.zero_lt_succ 0) (by simp; omega) (by simp; omega) (by simp; omega) ?_); intro g c6 w3 hown3 hg3 hat4 hlt3)
      have hk3 : KeptX (fun j => own j = some (2 * (i : Int) + 1) ∨ wr.heap.size ≤ j) wr w3 := (KeptX.of_old ((Old.refl wr).alloc _)).trans (KeptX.of_grown hg3 fun j e => .inl (hro j e))
      have hgt : Hid (g < wr.heap.size → own g = some (2 * (i : Int) + 1)) := Lib.hid fun h => by
        rcases hat4 with h4 | h4
        · exact hro g h4
        · simp at h4; omega
      have hXg : own g = some (2 * (i : Int) + 1) ∨ wr.heap.size ≤ g := by
        rcases Nat.lt_or_ge g wr.heap.size with h | h
        · exact .inl (hgt.out h)
        · exact .inr h
      rw [← midA_end e0.sees aim] at hown3
      have HS3 := Lib.hid (show OwnS txE 9 w0 w3 (.slice (some ⟨g, 0, none⟩) (e0.sees.length + 1) c6) (midA e0.sees aim e0.sees.length) from hown3)
      have HK3 := Lib.hid hk3
      have hsub : IntKind.i64.wrap (((e0.sees.length + 1 : Nat) : Int) - 1) = (e0.sees.length : Int) := by rw [show ((e0.sees.length + 1 : Nat) : Int) - 1 = (e0.sees.length : Int) from by omega]; exact IntWalk.i64_in _ (by omega)
      have hsub' : IntKind.i64.wrap ((e0.sees.length : Int) + 1 - 1) = (e0.sees.length : Int) := by rw [show (e0.sees.length : Int) + 1 - 1 = (e0.sees.length : Int) from by omega]; exact IntWalk.i64_in _ (by omega)
      obtain ⟨_, _, hb4, hb5, hb6⟩ := HS3.out.form
      obtain ⟨wz, hwz⟩ : ∃ z, z = wr := ⟨wr, rfl⟩
      have HJ := Lib.hid hoj
      rw [← hwz] at HD1 HO1 HK3 hXg hgt HJ
      clear hown3 hg3 hat4 hlt3 hb4 hb5 hb6 hk3 hro hrow b0 r3 hwz hoj
      go_upto_region 7 with fail
      go_loopw [9] (fun kv wx => ∃ (k : Nat), kv = .int .i64 k ∧ k ≤ e0.sees.length ∧ (∀ y ∈ e0.sees.drop k, 0 < cmpS y aim) ∧ OwnS txE 9 w0 wx (.slice (some ⟨g, 0, none⟩) (e0.sees.length + 1) c6) (midA e0.sees aim k) ∧ KeptX (fun j => own j = some (2 * (i : Int) + 1) ∨ wz.heap.size ≤ j) wz wx) (fun kv _ => (intOf kv).toNat)
      case atStart => exact ⟨e0.sees.length, rfl, Nat.le_refl _, fun y hy => by simp at hy, HS3.out, HK3.out⟩
      case round =>
        clear HS3 HK3 hsub hsub'
        obtain ⟨q, rfl, hq, hdr, hown, hkx⟩ := hrel
        have Hdr := Lib.hid hdr
        have HOw := Lib.hid hown
        have HK := Lib.hid hkx
        clear hdr hkx
        cases q with
        | zero =>
          have hk0 : ¬ (0 : Int) < ((0 : Nat) : Int) := by decide
          have Hf := Lib.hid (midA_done (c := cmpS) (l := e0.sees) (x := aim) (k := 0) Hdr.out (fun j y e => by omega) (Nat.zero_le _))
          clear hown
          go_upto_region 7 with fail
          refine wp_region_old (Old.refl _) (by kernel_rfl) (by kernel_rfl) ?_
          repeat (go_big_quiet_step (fail))
          refine wpQuiet_nil ?_
          rintro ⟨wq, hoq⟩
          dsimp only
          obtain ⟨bc5, rc5, rz5, hP5, hO5⟩ := HD1.out.growS HO1.out Hx.out He.out (HK.out.trans (KeptX.of_old hoq)) (HOw.out.old hoq) hgt.out
          have HP5 := Lib.hid hP5
          have HO5 := Lib.hid hO5
          clear hP5 hO5
          go_wp2_with fail
          go_end0
          obtain ⟨t', own', h, hfr⟩ := HP5.out
          exact ⟨⟨_, t', own', rfl, by rw [htop.out, ← Hf.out]; exact h, (Fr.of_old HJ.out).trans hfr⟩, HO5.out⟩
        | succ j =>
          obtain ⟨y, hy⟩ : ∃ y, e0.sees[j]? = some y := ⟨_, List.getElem?_eq_getElem (by omega)⟩
          have hys := Hsz.out y (List.mem_of_getElem? hy)
          have hk1 : (0 : Int) < ((j + 1 : Nat) : Int) := by omega
          have hw1 : IntKind.i64.wrap (((j + 1 : Nat) : Int) - 1) = (j : Int) := by rw [show ((j + 1 : Nat) : Int) - 1 = (j : Int) from by omega]; exact IntWalk.i64_in _ (by omega)
          have hw2 : IntKind.i64.wrap ((j : Int) + 1 - 1) = (j : Int) := by rw [show (j : Int) + 1 - 1 = (j : Int) from by omega]; exact IntWalk.i64_in _ (by omega)
          have hw3 : IntKind.i64.wrap (j : Int) = (j : Int) := IntWalk.i64_in _ (by omega)
          have cy := later (tx_cell hown (midA_prev (x := aim) hy))
          have ci := later (tx_cell hown (midA_at e0.sees aim (j + 1) hq))
          have hj1 : (j : Int) < (e0.sees.length : Int) + 1 := by omega
          have hj2 : (j : Int) + 1 < (e0.sees.length : Int) + 1 := by omega
          have Hswap := Lib.hid (midA_swap (x := aim) hy)
          have Hyj := Lib.hid (midA_prev (x := aim) hy)
          have Hturn := Lib.hid (fun h => drop_prev (p := fun z => 0 < cmpS z aim) hy h Hdr.out)
          have Hstop : Hid (¬ 0 < cmpS y aim → midA e0.sees aim (j + 1) = srtStep cmpS e0.sees aim) := Lib.hid fun h => midA_done (c := cmpS) Hdr.out (fun i z e hz => by
            obtain rfl : j = i := by omega
            obtain rfl := Option.some.inj (hy.symm.trans hz)
            exact h) hq
          have HFy := Lib.hid (fun V => RFold_any y V hys.1)
          have HC := Lib.hid (show ∀ V, Calls Tryz.prog 21 #[.string (foldS y), .string (foldS aim)] V fun e V' => e = .returned (.int .i64 (cmpS y aim)) ∧ Old V V' from fun V => RCompare_any (foldS y) (foldS aim) V hys.2 hz2)
          clear hown hy hys
          generalize cmpS y aim = cz at *
          generalize foldS y = fy at *
          generalize foldS aim = fa at *
          go_upto_region 7 with fail
          refine wp_region_old (Old.refl _) (by kernel_rfl) (by kernel_rfl) ?_
          repeat (go_big_quiet_step (first
            | (with_reducible exact Calls.in_old (HFy.out _))
            | (with_reducible exact Calls.in_old (HFa.out _))
            | (with_reducible exact Calls.in_old (HC.out _))))
          refine wpQuiet_nil ?_
          rintro ⟨wq, hoq⟩
          dsimp only
          have HOq := Lib.hid (HOw.out.old hoq)
          have HKq := Lib.hid (HK.out.trans (KeptX.of_old hoq))
          by_cases hz : 0 < cz
          · have cyq := fun V (o : Old wq V) => cy V (hoq.trans o)
            have ciq := fun V (o : Old wq V) => ci V (hoq.trans o)
            clear cy ci
            have cy0 := cyq wq (Old.refl _)
            have ci0 := ciq wq (Old.refl _)
            have fz := HOq.out.frozen
            have fj := fz j
            have fj1 := fz (j + 1)
            go_upto_region 9 with fail
            have S1 := Lib.hid (tx_stored HOq.out aim Hyj.out)
            have S2 := Lib.hid (tx_stored S1.out (i := j + 1) y (by rw [List.getElem?_set_ne (by omega)]; exact midA_at e0.sees aim (j + 1) hq))
            rw [Hswap.out] at S2
            have K2 : Hid (KeptX (fun j => own j = some (2 * (i : Int) + 1) ∨ wz.heap.size ≤ j) wz ((wq.setCell ⟨g, j, none⟩ (.string aim)).setCell ⟨g, j + 1, none⟩ (.string y))) := Lib.hid ((HKq.out.trans (KeptX.setCell _ g j _ hXg)).trans (KeptX.setCell _ g (j + 1) _ hXg))
            go_region
            all_goals
              go_wp2_with fail
              go_roundw
              case rel => exact ⟨j, by first | rfl | go_num, by omega, Hturn.out hz, (by first | exact S2.out | exact S2.out.old ((Old.refl _).drew)), (by first | exact K2.out | exact K2.out.trans (KeptX.of_old ((Old.refl _).drew)))⟩
              case measure => simp [intOf]; try omega
          · rw [Hstop.out hz] at HOq
            have hXq := HKq.out
            clear cy ci HOw HK HKq
            obtain ⟨bc5, rc5, rz5, hP5, hO5⟩ := HD1.out.growS HO1.out Hx.out He.out hXq HOq.out hgt.out
            have HP5 := Lib.hid hP5
            have HO5 := Lib.hid hO5
            clear hP5 hO5 hXq
            go_wp2_with fail
            go_end0
            obtain ⟨t', own', h, hfr⟩ := HP5.out
            exact ⟨⟨_, t', own', rfl, by rw [htop.out]; exact h, (Fr.of_old HJ.out).trans hfr⟩, HO5.out⟩
end Go.Proofs.YtohngjkedhpikaaGreatDoor
/-
  KEYWORD, RU: the document's builder: one mention more.
-/
namespace Go.Proofs.YtohngjkedhpikaaGreatDoor
open Go.RowKit Go.Maps
attribute [local go_sem] Old.refl Old.alloc Old.drew Old.setCell OldW.old

/-- what a mention may be -/
structure MnZ (m : Mn) : Prop where
  a : m.term.size ≤ 4194304 ∧ m.sub.size ≤ 4194304 ∧ m.aim.size ≤ 4194304
  f : (foldS m.term).size ≤ 4194304 ∧ (foldS m.sub).size ≤ 4194304 ∧ (foldS m.aim).size ≤ 4194304
structure AllI (w wx : World) (bb tb : Nat) (M : List Mn) (own : Nat → Option Int) : Prop where
  bd : ∃ (k : Nat) (lv : Value) (t : List Er), k ≤ M.length ∧ BD w wx bb tb k lv t (rawOf M) (termO M) own
  old : Old w wx
  len : M.length ≤ 1000
  z : ∀ m ∈ M, MnZ m
structure EntI (w wx : World) (bb tb : Nat) (M : List Mn) (m : Mn) (i : Nat) (own : Nat → Option Int) : Prop where
  bd : ∃ (k : Nat) (lv : Value) (t : List Er) (L : List En) (e0 : En), k ≤ (M ++ [m]).length ∧ BD w wx bb tb k lv t L (termO (M ++ [m])) own ∧ L[i]? = some e0 ∧ L.set i (addA e0 m) = rawOf (M ++ [m])
  old : Old w wx
  len : (M ++ [m]).length ≤ 1000
  z : ∀ x ∈ M ++ [m], MnZ x
variable {w wx wy : World} {bb tb : Nat} {M : List Mn} {m : Mn} {i : Nat} {own : Nat → Option Int}
theorem AllI.after (h : AllI w wx bb tb M own) (o : Old wx wy) : AllI w wy bb tb M own := by
  obtain ⟨k, lv, t, hk, hb⟩ := h.bd
  exact ⟨⟨k, lv, t, hk, hb.old o⟩, h.old.trans o, h.len, h.z⟩
theorem EntI.after (h : EntI w wx bb tb M m i own) (o : Old wx wy) : EntI w wy bb tb M m i own := by
  obtain ⟨k, lv, t, L, e0, hk, hb, h1, h2⟩ := h.bd
  exact ⟨⟨k, lv, t, L, e0, hk, hb.old o, h1, h2⟩, h.old.trans o, h.len, h.z⟩
/-- whose block is whose, of the blocks that are there -/
def trimO (n : Nat) (own : Nat → Option Int) : Nat → Option Int := fun g => if g < n then own g else none
theorem trimO_lt {n g : Nat} (h : g < n) : trimO n own g = own g := if_pos h
theorem trimO_ge {n g : Nat} (h : n ≤ g) : trimO n own g = none := if_neg (by omega)
theorem BR.trim {lv : Value} {t : List Er} {L : List En} (h : BR w wx lv t L own) : BR w wx lv t L (trimO wx.heap.size own) where
  sz := h.sz
  row := h.row
  len := h.len
  base := fun g a e => by
    by_cases hg : g < wx.heap.size
    · rw [trimO_lt hg] at e; exact h.base g a e
    · rw [trimO_ge (by omega)] at e; cases e
  out := fun g e => by rw [trimO_lt (ownsB_lt h.row e)]; exact h.out g e
  ent := fun i x e hx he => by
    obtain ⟨h1, h2, h3, h4, h5, h6⟩ := h.ent i x e hx he
    exact ⟨h1, h2, h3, h4, fun g hg => by rw [trimO_lt (ownsB_lt h3 hg)]; exact h5 g hg, fun g hg => by rw [trimO_lt (ownsB_lt h4 hg)]; exact h6 g hg⟩
theorem BD.trim {k : Nat} {lv : Value} {t : List Er} {L : List En} {T : ByteArray → Option ByteArray} (h : BD w wx bb tb k lv t L T own) : BD w wx bb tb k lv t L T (trimO wx.heap.size own) :=
  ⟨h.br.trim, h.box, h.mt, by rw [trimO_lt h.blt]; exact h.fb, by rw [trimO_lt h.mt.lt]; exact h.ft, h.ne, h.b0, h.t0⟩
theorem AllI.trim (h : AllI w wx bb tb M own) : AllI w wx bb tb M (trimO wx.heap.size own) := by
  obtain ⟨k, lv, t, hk, hb⟩ := h.bd
  exact ⟨⟨k, lv, t, hk, hb.trim⟩, h.old, h.len, h.z⟩
/-- a block that is new to the builder is not the builder's -/
theorem AllI.apart (h : AllI w wx bb tb M own) {g : Nat} (hg : wx.heap.size ≤ g) : trimO wx.heap.size own g = none ∧ g ≠ bb ∧ g ≠ tb := by
  obtain ⟨k, lv, t, hk, hb⟩ := h.bd
  refine ⟨trimO_ge hg, fun e => ?_, fun e => ?_⟩
  · have := hb.blt; omega
  · have := hb.mt.lt; omega
theorem AllI.made (w : World) : AllI w ((w.alloc (.map #[] 0)).alloc (.cells #[.slice none 0 0, .map (some w.heap.size)] 162 (0, 0))) (w.heap.size + 1) w.heap.size [] (fun _ => none) := by
  refine ⟨⟨0, .slice none 0 0, [], Nat.zero_le _, ⟨BR.nil (by simp; omega), ?_, ?_, rfl, rfl, by omega, by omega, Nat.le_refl _⟩⟩, ((Old.refl w).alloc _).alloc _, Nat.zero_le _, fun m hm => by cases hm⟩
  · have e : (w.alloc (.map #[] 0)).heap.size = w.heap.size + 1 := by simp [go_sem]
    rw [← e]
    exact (Go.MapKept.heap_alloc _ _).1
  · exact (MapV.made Tryz.prog 9 Value.string w).old ((Old.refl _).alloc _)
theorem raw_small (hl : M.length ≤ 1000) (hz : ∀ m ∈ M, MnZ m) : ∀ e ∈ rawOf M, (e.term.size ≤ 4194304 ∧ e.sub.size ≤ 4194304 ∧ (foldS e.term).size ≤ 4194304 ∧ (foldS e.sub).size ≤ 4194304) ∧ e.topics.length ≤ 1000000 ∧ e.sees.length ≤ 1000000 ∧ ∀ x ∈ e.sees, x.size ≤ 4194304 ∧ (foldS x).size ≤ 4194304 := by
  intro e he
  obtain ⟨h1, h2, h3, h4, h5, h6⟩ := ix_small hl (fun m hm => (hz m hm).a) (fun m hm => (hz m hm).f) e (rawOf_mem.1 he)
  refine ⟨⟨h1, h2, h3, h4⟩, h5, ?_, h6⟩
  obtain ⟨p, _, rfl⟩ := ix_mem.1 (rawOf_mem.1 he)
  show (srt cmpS (seesOf M p)).length ≤ _
  rw [srt_length]
  have := seesOf_le M p
  omega
theorem AllI.entry (h : AllI w wx bb tb M own) (hm : MnZ m) (hl : M.length < 1000) :
    Calls Tryz.prog 112 #[.pointer (some ⟨bb, 0, none⟩), .string m.term, .string m.sub] wx fun e w' => ∃ (i : Nat) (own' : Nat → Option Int), e = .returned (.int .i64 i) ∧ EntI w w' bb tb M m i own' ∧ Fr own own' bb tb wx w' := by
  obtain ⟨k, lv, t, hk, hb⟩ := h.bd
  have hr : (rawOf M).length ≤ 1000000 := by rw [rawOf_length]; have := places_length M; omega
  refine (entry_any w wx bb tb k lv t own M m hb h.old (by omega) hr ⟨hm.a.1, hm.a.2.1, hm.f.1, hm.f.2.1⟩ fun e he => (raw_small h.len h.z e he).1).mono ?_
  rintro e w' ⟨⟨i, L, lv', t', own', e0, rfl, hb', h1, h2, hf⟩, ho⟩
  refine ⟨i, own', rfl, ⟨⟨k + 1, lv', t', L, e0, by simp; omega, hb', h1, h2⟩, ho, by simp; omega, fun x hx => ?_⟩, hf⟩
  rcases List.mem_append.1 hx with h | h
  · exact (‹AllI w wx bb tb M own›).z x h
  · rw [List.mem_singleton.1 h]; exact hm
theorem topA_le {l : List Int} {n : Int} : l.length ≤ (topA l n).length := by
  unfold topA
  split
  · exact Nat.le_refl _
  · simp
theorem seeA_le {l : List ByteArray} {x : ByteArray} : l.length ≤ (seeA l x).length ∧ ∀ y ∈ l, y ∈ seeA l x := by
  unfold seeA
  split
  · exact ⟨Nat.le_refl _, fun _ h => h⟩
  · refine ⟨?_, fun y hy => (srtStep_perm l x).mem_iff.2 (by simp [hy])⟩
    rw [(srtStep_perm l x).length_eq]; simp
theorem EntI.topic (h : EntI w wx bb tb M m i own) (hs : ¬ m.see = 1) :
    Calls Tryz.prog 111 #[.pointer (some ⟨bb, 0, none⟩), .int .i64 i, .int .i64 m.topic] wx fun e w' => e = .returned (.tuple #[]) ∧ ∃ own', AllI w w' bb tb (M ++ [m]) own' ∧ Fr own own' bb tb wx w' := by
  obtain ⟨k, lv, t, L, e0, hk, hb, h1, h2⟩ := h.bd
  have hL : L.length = (rawOf (M ++ [m])).length := by rw [← h2, List.length_set]
  have hr : (rawOf (M ++ [m])).length ≤ 1000 := by rw [rawOf_length]; have := places_length (M ++ [m]); have := h.len; omega
  have hi := (List.getElem?_eq_some_iff.1 h1).1
  have he : addA e0 m = { e0 with topics := topA e0.topics m.topic } := if_neg hs
  have hm : addA e0 m ∈ rawOf (M ++ [m]) := by rw [← h2]; exact List.mem_of_getElem? (i := i) (by rw [List.getElem?_set_self hi])
  have ht := (raw_small h.len h.z _ hm).2.1
  rw [he] at ht
  refine (topic_any w wx bb tb k lv t L _ own i e0 m.topic hb h.old h1 (by omega) (Nat.le_trans topA_le ht)).mono ?_
  rintro e w' ⟨⟨lv', t', own', rfl, hb', hf⟩, ho⟩
  rw [← he, h2] at hb'
  exact ⟨rfl, own', ⟨⟨k, lv', t', hk, hb'⟩, ho, h.len, h.z⟩, hf⟩
theorem EntI.see (h : EntI w wx bb tb M m i own) (hs : m.see = 1) :
    Calls Tryz.prog 113 #[.pointer (some ⟨bb, 0, none⟩), .int .i64 i, .string m.aim] wx fun e w' => e = .returned (.tuple #[]) ∧ ∃ own', AllI w w' bb tb (M ++ [m]) own' ∧ Fr own own' bb tb wx w' := by
  obtain ⟨k, lv, t, L, e0, hk, hb, h1, h2⟩ := h.bd
  have hL : L.length = (rawOf (M ++ [m])).length := by rw [← h2, List.length_set]
  have hr : (rawOf (M ++ [m])).length ≤ 1000 := by rw [rawOf_length]; have := places_length (M ++ [m]); have := h.len; omega
  have hi := (List.getElem?_eq_some_iff.1 h1).1
  have he : addA e0 m = { e0 with sees := seeA e0.sees m.aim } := if_pos hs
  have hm : addA e0 m ∈ rawOf (M ++ [m]) := by rw [← h2]; exact List.mem_of_getElem? (i := i) (by rw [List.getElem?_set_self hi])
  obtain ⟨_, _, ht, hu⟩ := raw_small h.len h.z _ hm
  rw [he] at ht hu
  have hz := h.z m (by simp)
  refine (see_any w wx bb tb k lv t L _ own i e0 m.aim hb h.old h1 (by omega) (Nat.le_trans seeA_le.1 ht) ⟨hz.a.2.2, hz.f.2.2⟩ fun s hs => hu s (seeA_le.2 s hs)).mono ?_
  rintro e w' ⟨⟨lv', t', own', rfl, hb', hf⟩, ho⟩
  rw [← he, h2] at hb'
  exact ⟨rfl, own', ⟨⟨k, lv', t', hk, hb'⟩, ho, h.len, h.z⟩, hf⟩
end Go.Proofs.YtohngjkedhpikaaGreatDoor
