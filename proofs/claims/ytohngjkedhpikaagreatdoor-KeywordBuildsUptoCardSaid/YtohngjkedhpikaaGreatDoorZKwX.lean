/-
  KEYWORD, X: refused: the first term that may not be, the first see that leads nowhere or back.
-/
import Derived.Test.YtohngjkedhpikaaGreatDoorZKwH
import Derived.Test.YtohngjkedhpikaaGreatDoorZKwW
import Derived.Test.YtohngjkedhpikaaGreatDoorZKwQ
namespace Go.Proofs.YtohngjkedhpikaaGreatDoor
open Go.RowKit Go.Maps
attribute [local go_sem] Old.refl Old.alloc Old.drew Old.setCell OldW.old

/-- what refused hands back -/
def RetR (w' : World) (fb n : Nat) (M : List Mn) (e : Ending) : Prop :=
  (∃ f v, e = .returned v ∧ IsErr w' v f.code f.src f.line f.col f.word ∧ (M.findSome? termF = some f ∨ (M.findSome? termF = none ∧ M.findSome? (seeF M) = some f))) ∨
  (e = .returned .nilIface ∧ M.findSome? termF = none ∧ M.findSome? (seeF M) = none ∧ ∃ F, Memo w' fb n F ∧ ∀ m ∈ M, m.see = 1 → F m.aim = some (foldS m.aim))
set_option maxRecDepth 100000 in
set_option maxHeartbeats 3200000 in
theorem refused_any (v : Value) (M : List Mn) (w0 w1 w : World) (fb bt bs bo n k0 : Nat) (B : Pl → Nat) (TV SV : Pl → Value) (own : Nat → Option Pl) (hv : Recs mnE w0 v M) (ho : Old w0 w) (hT : Tabs w0) (hb : w0.heap.size ≤ fb) (hG : GS w1 w fb bt bs bo n k0 (termO M) (subO M) (EoM M) B TV SV own) (hn : n ≤ 1000000000000) (hMl : M.length ≤ 1000)
    (hsz : ∀ m ∈ M, m.term.size ≤ 4194304 ∧ m.sub.size ≤ 4194304 ∧ m.aim.size ≤ 4194304) (hfs : ∀ m ∈ M, (foldS m.term).size ≤ 4194304 ∧ (foldS m.sub).size ≤ 4194304 ∧ (foldS m.aim).size ≤ 4194304) (hsee : ∀ m ∈ M, m.see = 0 ∨ (m.see = 1 ∧ m.sub = noB)) :
    Calls Tryz.prog 42 #[v, .map (some bo), .map (some fb)] w fun e w' => RetR w' fb (n + 2000000) M e ∧ OldBut fb w w' := by
  obtain ⟨a, cap, rfl, hc1, hc2⟩ := hv.form
  obtain ⟨b, off, ha, hat⟩ := Mns.open hv
  have Ha := Lib.hid ha
  have Hat := Lib.hid hat
  have Hsz := Lib.hid hsz
  have Hfs := Lib.hid hfs
  have Hsee := Lib.hid hsee
  have HG := Lib.hid hG
  have hmm := @run_makeMap Tryz.prog
  clear hv ha hat hsz hfs hsee hG
  go_enter Tryz.func42, Tryz.ntmps42
  go_wp2_with fail
  go_loopw [19] (fun j wr => ∃ k : Nat, j = .int .i64 k ∧ k ≤ M.length ∧ (∀ (i : Nat) (m : Mn), i < k → M[i]? = some m → termF m = none) ∧ Old w wr) (fun j _ => M.length - (intOf j).toNat)
  case atStart => exact ⟨0, rfl, Nat.zero_le _, fun i m hi => absurd hi (Nat.not_lt_zero i), Old.refl _⟩
  case round =>
    obtain ⟨k, rfl, hk, hno, hoW⟩ := hrel
    have Hno := Lib.hid hno
    clear hno
    by_cases hlt : k < M.length
    · have hi : (k : Int) < M.length := by omega
      obtain ⟨m, hm⟩ : ∃ m, M[k]? = some m := ⟨_, List.getElem?_eq_getElem hlt⟩
      obtain rfl := Ha.out (by omega)
      have hmM := List.mem_of_getElem? hm
      obtain ⟨hs1, hs2, hs3⟩ := Hsz.out m hmM
      have hO := ho.trans hoW
      have c0 : ∀ V, Old wr V → V.cell? ⟨b, off + k * 7, none⟩ = some (.int .i64 m.topic) := fun V o => (Hat.out k m hm V (hO.trans o)).1
      have c1 : ∀ V, Old wr V → V.cell? ⟨b, off + k * 7 + 1, none⟩ = some (.int .i64 m.src) := fun V o => (Hat.out k m hm V (hO.trans o)).2.1
      have c2 : ∀ V, Old wr V → V.cell? ⟨b, off + k * 7 + 2, none⟩ = some (.int .i64 m.line) := fun V o => (Hat.out k m hm V (hO.trans o)).2.2.1
      have c3 : ∀ V, Old wr V → V.cell? ⟨b, off + k * 7 + 3, none⟩ = some (.string m.term) := fun V o => (Hat.out k m hm V (hO.trans o)).2.2.2.1
      have c4 : ∀ V, Old wr V → V.cell? ⟨b, off + k * 7 + 4, none⟩ = some (.string m.sub) := fun V o => (Hat.out k m hm V (hO.trans o)).2.2.2.2.1
      have c5 : ∀ V, Old wr V → V.cell? ⟨b, off + k * 7 + 5, none⟩ = some (.string m.aim) := fun V o => (Hat.out k m hm V (hO.trans o)).2.2.2.2.2.1
      have c6 : ∀ V, Old wr V → V.cell? ⟨b, off + k * 7 + 6, none⟩ = some (.int .i64 m.see) := fun V o => (Hat.out k m hm V (hO.trans o)).2.2.2.2.2.2
      have Hm := Lib.hid hm
      have hse := Hsee.out m hmM
      have Hbad : Hid (badW m = if mayT m.term = false then some m.term else if ¬ m.sub = noB ∧ mayT m.sub = false then some m.sub else if m.see = 1 ∧ mayT m.aim = false then some m.aim else none) := Lib.hid rfl
      have Hf : Hid (∀ x, badW m = some x → M.findSome? termF = some ⟨90, m.src, m.line, 0, x⟩) := Lib.hid fun x hx => first_some hm Hno.out (by unfold termF; rw [hx]; rfl)
      have Hgo : Hid (badW m = none → ∀ (i : Nat) (z : Mn), i < k + 1 → M[i]? = some z → termF z = none) := Lib.hid fun hx i z hi hz => by
        rcases Nat.lt_or_ge i k with h | h
        · exact Hno.out i z h hz
        · obtain rfl : i = k := by omega
          obtain rfl := Option.some.inj (hm.symm.trans hz)
          unfold termF; rw [hx]; rfl
      clear hm hmM
      go_upto_region 4 with fail
      clear c0 c1 c2 c3 c4 c5 c6
      change Code.wp _ _ _ _ (wr.alloc (.cells (mnC m) 128))
      have h9 := heap_alloc_new wr (.cells (mnC m) 128)
      have oa := hoW.alloc (.cells (mnC m) 128)
      generalize wr.alloc (.cells (mnC m) 128) = wA at *
      generalize wr.heap.size = g9 at *
      have d0 := later (show wA.cell? ⟨g9, 0, none⟩ = some (.int .i64 m.topic) from cells_at (i := 0) h9 rfl)
      have d1 := later (show wA.cell? ⟨g9, 1, none⟩ = some (.int .i64 m.src) from cells_at (i := 1) h9 rfl)
      have d2 := later (show wA.cell? ⟨g9, 2, none⟩ = some (.int .i64 m.line) from cells_at (i := 2) h9 rfl)
      have d3 := later (show wA.cell? ⟨g9, 3, none⟩ = some (.string m.term) from cells_at (i := 3) h9 rfl)
      have d4 := later (show wA.cell? ⟨g9, 4, none⟩ = some (.string m.sub) from cells_at (i := 4) h9 rfl)
      have d5 := later (show wA.cell? ⟨g9, 5, none⟩ = some (.string m.aim) from cells_at (i := 5) h9 rfl)
      have d6 := later (show wA.cell? ⟨g9, 6, none⟩ = some (.int .i64 m.see) from cells_at (i := 6) h9 rfl)
      have HM1 := Lib.hid (fun V (o : Old wA V) => mayTerm_any m.term V (hT.old ((ho.trans oa).trans o)) hs1)
      have HM2 := Lib.hid (fun V (o : Old wA V) => maySub_any m.sub V (hT.old ((ho.trans oa).trans o)) hs2)
      have HM3 := Lib.hid (fun V (o : Old wA V) => mayTerm_any m.aim V (hT.old ((ho.trans oa).trans o)) hs3)
      have HW := Lib.hid (fun x V => wrong_any m 90 x V (by decide))
      clear h9
      by_cases b1 : mayT m.term = false
      · have Hr : Hid (M.findSome? termF = some ⟨90, m.src, m.line, 0, m.term⟩) := Lib.hid (Hf.out _ (by rw [Hbad.out, if_pos b1]))
        rw [b1] at HM1
        clear b1 HM2 HM3 Hf Hgo
        go_wp2_with (first
          | (go_at_call 84; refine (HM1.out _ (Old.refl _)).mono ?_; rintro e w2 ⟨rfl, o2⟩)
          | (go_at_call 85; refine (HW.out m.term _).mono ?_; rintro e w3 ⟨⟨ve, rfl, hE⟩, o3⟩))
        go_ret
        exact ⟨.inl ⟨⟨90, m.src, m.line, 0, m.term⟩, ve, rfl, hE, .inl Hr.out⟩, (OldBut.refl fb w).old ((oa.trans o2).trans o3)⟩
      · have h1 : mayT m.term = true := by simpa using b1
        rw [h1] at HM1
        by_cases b2 : (decide (m.sub = noB) || mayT m.sub) = false
        · have Hr : Hid (M.findSome? termF = some ⟨90, m.src, m.line, 0, m.sub⟩) := Lib.hid (Hf.out _ (by
            rw [Hbad.out, if_neg b1, if_pos]
            rw [Bool.or_eq_false_iff, decide_eq_false_iff_not] at b2
            exact b2))
          rw [b2] at HM2
          clear b1 h1 b2 HM3 Hf Hgo
          go_wp2_with (first
            | (go_at_call 84; refine (HM1.out _ (Old.refl _)).mono ?_; rintro e w2 ⟨rfl, o2⟩)
            | (go_at_call 86; refine (HM2.out _ o2).mono ?_; rintro e w4 ⟨rfl, o4⟩; have o24 := o2.trans o4)
            | (go_at_call 85; refine (HW.out m.sub _).mono ?_; rintro e w3 ⟨⟨ve, rfl, hE⟩, o3⟩))
          go_ret
          exact ⟨.inl ⟨⟨90, m.src, m.line, 0, m.sub⟩, ve, rfl, hE, .inl Hr.out⟩, (OldBut.refl fb w).old ((oa.trans o24).trans o3)⟩
        · have h2 : (decide (m.sub = noB) || mayT m.sub) = true := by
            have h := b2
            rw [Bool.not_eq_false] at h
            exact h
          have b2' : ¬ (¬ m.sub = noB ∧ mayT m.sub = false) := by
            intro h
            exact b2 (by rw [Bool.or_eq_false_iff, decide_eq_false_iff_not]; exact h)
          rw [h2] at HM2
          rcases hse with hz | ⟨hz, hsb⟩
          · have hb : badW m = none := by rw [Hbad.out, if_neg b1, if_neg b2', if_neg (by rw [hz]; intro h; exact absurd h.1 (by decide))]
            have Hgo' := Lib.hid (Hgo.out hb)
            rw [hz] at d6
            clear b1 h1 b2 b2' h2 HM3 Hf Hgo hb hz HW
            go_wp2_with (first
              | (go_at_call 84; refine (HM1.out _ (Old.refl _)).mono ?_; rintro e w2 ⟨rfl, o2⟩)
              | (go_at_call 86; refine (HM2.out _ o2).mono ?_; rintro e w4 ⟨rfl, o4⟩; have o24 := o2.trans o4))
            have ow := oa.trans o24
            go_roundw
            case rel => exact ⟨k + 1, by go_num, by omega, Hgo'.out, ow⟩
            case measure => simp [intOf]; omega
          · clear hsb
            by_cases b3 : mayT m.aim = false
            · have Hr : Hid (M.findSome? termF = some ⟨90, m.src, m.line, 0, m.aim⟩) := Lib.hid (Hf.out _ (by rw [Hbad.out, if_neg b1, if_neg b2', if_pos ⟨hz, b3⟩]))
              rw [b3] at HM3
              rw [hz] at d6 HW
              clear b1 h1 b2 b2' h2 Hf Hgo hz b3
              go_upto_region 8 with (first
                | (go_at_call 84; refine (HM1.out _ (Old.refl _)).mono ?_; rintro e w2 ⟨rfl, o2⟩)
                | (go_at_call 86; refine (HM2.out _ o2).mono ?_; rintro e w4 ⟨rfl, o4⟩; have o24 := o2.trans o4))
              clear HM1 HM2
              go_wp2_with (first
                | (go_at_call 84; (with_reducible refine (HM3.out _ o24).mono ?_); rintro e w5 ⟨rfl, o5⟩; have o25 := o24.trans o5)
                | (go_at_call 85; refine (HW.out m.aim _).mono ?_; rintro e w3 ⟨⟨ve, rfl, hE⟩, o3⟩)
                | fail)
              go_ret
              exact ⟨.inl ⟨⟨90, m.src, m.line, 0, m.aim⟩, ve, rfl, hE, .inl Hr.out⟩, (OldBut.refl fb w).old ((oa.trans o25).trans o3)⟩
            · have h3 : mayT m.aim = true := by simpa using b3
              have hb : badW m = none := by rw [Hbad.out, if_neg b1, if_neg b2', if_neg (fun h => b3 h.2)]
              have Hgo' := Lib.hid (Hgo.out hb)
              rw [h3] at HM3
              rw [hz] at d6
              clear b1 h1 b2 b2' h2 Hf Hgo hb hz HW b3 h3
              go_upto_region 8 with (first
                | (go_at_call 84; refine (HM1.out _ (Old.refl _)).mono ?_; rintro e w2 ⟨rfl, o2⟩)
                | (go_at_call 86; refine (HM2.out _ o2).mono ?_; rintro e w4 ⟨rfl, o4⟩; have o24 := o2.trans o4))
              clear HM1 HM2
              go_wp2_with (first
                | (go_at_call 84; (with_reducible refine (HM3.out _ o24).mono ?_); rintro e w5 ⟨rfl, o5⟩; have o25 := o24.trans o5)
                | fail)
              have ow := oa.trans o25
              go_roundw
              case rel => exact ⟨k + 1, by go_num, by omega, Hgo'.out, ow⟩
              case measure => simp [intOf]; omega
    · obtain rfl : k = M.length := by omega
      have hi : ¬ (M.length : Int) < M.length := by omega
      have HT0 : Hid (M.findSome? termF = none) := Lib.hid (first_none fun j y hj => Hno.out j y (List.getElem?_eq_some_iff.1 hj).1 hj)
      clear Hno
      obtain ⟨wz, hwz⟩ : ∃ x, x = wr := ⟨wr, rfl⟩
      subst hwz
      have hGc := (HG.out.old hoW).cut
      have hlt1 := hGc.memo.lt
      have hlt2 := hGc.mt.lt
      have hlt3 := hGc.ms.lt
      have hlt4 := hGc.mo.lt
      have HGc := Lib.hid hGc
      clear hGc HG
      go_upto_region 13 with fail
      have hH0 : MapV Tryz.prog 9 Value.string ((wz.alloc (.map #[] 0)).alloc (.map #[] 0)) wz.heap.size 0 (fun _ => none) := (MapV.made _ _ _ _).old ((Old.refl _).alloc _)
      have oM : Old wz ((wz.alloc (.map #[] 0)).alloc (.map #[] 0)) := ((Old.refl wz).alloc _).alloc _
      have hw0 : ∀ wI : World, wz.heap.size + 1 < wI.heap.size → WS wI ((wz.alloc (.map #[] 0)).alloc (.map #[] 0)) (wz.heap.size + 1) 0 (fun _ => .slice none 0 0) (fun _ => []) := fun wI h => WS.made _ (by simp) h
      have hsM : ((wz.alloc (.map #[] 0)).alloc (.map #[] 0)).heap.size = wz.heap.size + 2 := by simp
      have HGM := Lib.hid (HGc.out.old oM)
      have HH0 := Lib.hid hH0
      have Hw0 := Lib.hid hw0
      have HoM := Lib.hid oM
      clear hH0 hw0 oM HGc
      generalize (wz.alloc (.map #[] 0)).alloc (.map #[] 0) = wM at *
      obtain ⟨hb', hhb⟩ : ∃ x, wz.heap.size = x := ⟨_, rfl⟩
      rw [hhb] at HH0 Hw0 ⊢
      have HsM : Hid (wM.heap.size = hb' + 2 ∧ wz.heap.size = hb') := Lib.hid ⟨by omega, hhb⟩
      obtain ⟨wb, hwb⟩ : ∃ x, hb' + 1 = x := ⟨_, rfl⟩
      rw [hwb] at Hw0 ⊢
      have Hwb := Lib.hid hwb
      obtain ⟨own', hown'⟩ : ∃ o : Nat → Option Pl, o = fun g => if g < wz.heap.size then own g else none := ⟨_, rfl⟩
      rw [← hown'] at HGM
      have How : Hid (∀ g, wz.heap.size ≤ g → own' g = none) := Lib.hid fun g hg => by rw [hown']; exact if_neg (by omega)
      have HGl : Hid (fb < wz.heap.size ∧ bt < wz.heap.size ∧ bs < wz.heap.size ∧ bo < wz.heap.size) := Lib.hid ⟨hlt1, hlt2, hlt3, hlt4⟩
      clear hwb hhb hsM hown' hlt1 hlt2 hlt3 hlt4
      go_wp2_with (at_range; refine wpList_range_mv rfl _ _ rfl 89 92 keyedPl plV Tryz.underlying84 bo k0 _ rfl HGM.out.mo ?_; intro wI cnt hrg hgI hsI)
      try go_frame
      have hRW0 : RW w1 wz wI wI fb bt bs bo wM.heap.size hb' wb n 0 0 cnt k0 (termO M) (subO M) (EoM M) B TV SV own' (hasV []) (fun _ => .slice none 0 0) (wayD M []) (fun p => p ∈ places M ∧ p ∉ ([] : List Pl)) := by
        have oI : Old wM wI := (Old.refl wM).grown hgI (fun k e => by cases e)
        have e1 := HsM.out
        have e2 := Hwb.out
        have e3 := HGl.out
        refine ⟨HGM.out.old oI, ?_, ?_, ?_, (OldBut.refl fb wz).old (HoM.out.trans oI), How.out, by omega, by omega, by omega, by omega, e3, by omega, Nat.le_refl _⟩
        · rw [show (fun p => p ∈ places M ∧ p ∉ ([] : List Pl)) = (fun p => ((EoM M p).map fun _ => Value.pointer (some ⟨B p, 0, none⟩)).isSome = true) from by
            funext p
            unfold EoM
            by_cases hp : p ∈ places M <;> simp [hp]]
          exact hrg
        · rw [show hasV [] = fun _ => none from rfl]
          exact HH0.out.old oI
        · rw [show wayD M [] = fun _ => [] from by funext t; simp [wayD]]
          exact (Hw0.out wI (by omega)).old oI
      have HR0 := Lib.hid hRW0
      obtain ⟨rr, hrr⟩ : ∃ x, wM.heap.size = x := ⟨_, rfl⟩
      rw [hrr] at HR0 ⊢
      have Hfin : Hid (wz.heap.size ≤ wM.heap.size) := Lib.hid (by have := HsM.out; omega)
      clear hRW0 hrg hgI hsI hrr HH0 Hw0 HGM HoM Hwb HGl How HsM
      go_loopg [] cnt (fun c wx => ∃ (n2 nH nW cn : Nat) (D : List Pl) (V : ByteArray → Value), cn ≤ c ∧ D.Nodup ∧ (∀ p ∈ D, p ∈ places M) ∧ n2 ≤ n + 1000 * D.length ∧ nH ≤ D.length ∧ nW ≤ 1000 * D.length ∧ RW w1 wz wI wx fb bt bs bo rr hb' wb n2 nH nW cn k0 (termO M) (subO M) (EoM M) B TV SV own' (hasV D) V (wayD M D) (fun p => p ∈ places M ∧ p ∉ D))
      case atStart => exact ⟨n, 0, 0, cnt, [], _, Nat.le_refl _, List.nodup_nil, by simp, by simp, by simp, by simp, HR0.out⟩
      case round =>
        clear HR0
        obtain ⟨n2, nH, nW, cn, D, V, hcn, hnd, hsub, hn2, hnH, hnW, hRW⟩ := hrel
        have HRW := Lib.hid hRW
        have Hnd := Lib.hid hnd
        have Hsub := Lib.hid hsub
        have hDl : D.length ≤ 1000 := Nat.le_trans (nodup_le hnd hsub) (Nat.le_trans (places_length M) hMl)
        clear hRW hnd hsub
        rename_i wx2 _ _ _ _
        go_wp2_with (at_next; refine wpList_next_mw rfl _ rfl 89 keyedPl plV (fun _ _ => plV_inj) bo rr k0 _ _ cn rfl HRW.out.rg ?_ ?_)
        · intro hl0
          have hall : ∀ p, p ∈ D ↔ p ∈ places M := fun p => ⟨Hsub.out p, fun hp => by
            obtain ⟨k1, k2⟩ := pl_sizes Hfs.out hp
            obtain ⟨kl, hkl⟩ := keyPl p (by omega) (by omega)
            exact Classical.byContradiction fun h => hl0 p kl hkl ⟨hp, h⟩⟩
          have Hall := Lib.hid hall
          obtain ⟨F0, hF0⟩ := HRW.out.gs.memo
          have HF0 := Lib.hid hF0
          have HH := Lib.hid HRW.out.has
          have HWS := Lib.hid HRW.out.ws
          have HLO := Lib.hid HRW.out.lo
          have Hpos : Hid (fb < wI.heap.size ∧ fb ≠ wb ∧ fb ≠ hb' ∧ hb' ≠ wb ∧ fb < hb') := Lib.hid (by
            have h1 := HRW.out.p1
            have h2 := HRW.out.p2
            have h4 := HRW.out.p4
            have h5 := HRW.out.p5
            have h6 := HRW.out.p6
            omega)
          have Hn2 : Hid (n2 ≤ n + 1000000) := Lib.hid (by omega)
          clear hall hl0 hF0 HRW Hnd Hsub hDl hcn hnH hnW hn2
          go_wp2_with fail
          go_loopw [95] (fun j wx => ∃ (k n3 : Nat) (F : ByteArray → Option ByteArray), j = .int .i64 k ∧ k ≤ M.length ∧ n3 ≤ n2 + 3 * k ∧ Memo wx fb n3 F ∧ MapV Tryz.prog 9 Value.string wx hb' nH (hasV D) ∧ WS wI wx wb nW V (wayD M D) ∧ OldBut fb wz wx ∧ (∀ (i : Nat) (m : Mn), i < k → M[i]? = some m → m.see = 1 → F m.aim = some (foldS m.aim)) ∧ (∀ (i : Nat) (m : Mn), i < k → M[i]? = some m → seeF M m = none)) (fun j _ => M.length - (intOf j).toNat)
          case atStart => exact ⟨0, n2, F0, rfl, Nat.zero_le _, Nat.le_refl _, HF0.out, HH.out, HWS.out, HLO.out, fun i m hi => absurd hi (Nat.not_lt_zero i), fun i m hi => absurd hi (Nat.not_lt_zero i)⟩
          case round =>
            clear HF0 HH HWS HLO
            obtain ⟨k, n3, F, rfl, hk, hn3, hF, hH, hWS, hLO, hkn, hno⟩ := hrel
            have HF := Lib.hid hF
            have HH := Lib.hid hH
            have HWS := Lib.hid hWS
            have HLO := Lib.hid hLO
            have Hkn := Lib.hid hkn
            have Hno := Lib.hid hno
            clear hF hH hWS hLO hkn hno
            by_cases hlt : k < M.length
            · have hi : (k : Int) < M.length := by omega
              obtain ⟨m, hm⟩ : ∃ m, M[k]? = some m := ⟨_, List.getElem?_eq_getElem hlt⟩
              obtain rfl := Ha.out (by omega)
              have hmM := List.mem_of_getElem? hm
              obtain ⟨hs1, hs2, hs3⟩ := Hsz.out m hmM
              have hfm := Lib.hid (Hfs.out m hmM)
              have hO := HLO.out.base (ho.trans hoW) hb
              have c0 : ∀ V, Old wr V → V.cell? ⟨b, off + k * 7, none⟩ = some (.int .i64 m.topic) := fun V o => (Hat.out k m hm V (hO.trans o)).1
              have c1 : ∀ V, Old wr V → V.cell? ⟨b, off + k * 7 + 1, none⟩ = some (.int .i64 m.src) := fun V o => (Hat.out k m hm V (hO.trans o)).2.1
              have c2 : ∀ V, Old wr V → V.cell? ⟨b, off + k * 7 + 2, none⟩ = some (.int .i64 m.line) := fun V o => (Hat.out k m hm V (hO.trans o)).2.2.1
              have c3 : ∀ V, Old wr V → V.cell? ⟨b, off + k * 7 + 3, none⟩ = some (.string m.term) := fun V o => (Hat.out k m hm V (hO.trans o)).2.2.2.1
              have c4 : ∀ V, Old wr V → V.cell? ⟨b, off + k * 7 + 4, none⟩ = some (.string m.sub) := fun V o => (Hat.out k m hm V (hO.trans o)).2.2.2.2.1
              have c5 : ∀ V, Old wr V → V.cell? ⟨b, off + k * 7 + 5, none⟩ = some (.string m.aim) := fun V o => (Hat.out k m hm V (hO.trans o)).2.2.2.2.2.1
              have c6 : ∀ V, Old wr V → V.cell? ⟨b, off + k * 7 + 6, none⟩ = some (.int .i64 m.see) := fun V o => (Hat.out k m hm V (hO.trans o)).2.2.2.2.2.2
              have Hm := Lib.hid hm
              have hse := Hsee.out m hmM
              have HmM := Lib.hid hmM
              have Hsome : Hid (∀ f, seeF M m = some f → M.findSome? (seeF M) = some f) := Lib.hid fun f hf => first_some hm Hno.out hf
              have Hgo : Hid (seeF M m = none → ∀ (i : Nat) (z : Mn), i < k + 1 → M[i]? = some z → seeF M z = none) := Lib.hid fun hx i z hi hz => by
                rcases Nat.lt_or_ge i k with h | h
                · exact Hno.out i z h hz
                · obtain rfl : i = k := by omega
                  obtain rfl := Option.some.inj (hm.symm.trans hz)
                  exact hx
              clear hm hmM
              go_upto_region 26 with fail
              clear c0 c1 c2 c3 c4 c5 c6
              change Code.wp _ _ _ _ (wr.alloc (.cells (mnC m) 128))
              have h9 := heap_alloc_new wr (.cells (mnC m) 128)
              have hgs : Hid (wr.heap.size ≠ fb ∧ wr.heap.size ≠ wb) := Lib.hid (by
                have h1 := HF.out.mp.lt
                have h2 := HWS.out.mp.lt
                omega)
              have oA : Old wr (wr.alloc (.cells (mnC m) 128)) := (Old.refl wr).alloc _
              have HFA := Lib.hid (HF.out.old oA)
              have HHA := Lib.hid (HH.out.old oA)
              have HWA := Lib.hid (HWS.out.old oA)
              have HLA := Lib.hid (HLO.out.old oA)
              have hOA := hO.trans oA
              clear HF HH HWS HLO oA hO
              generalize wr.alloc (.cells (mnC m) 128) = wA at *
              generalize wr.heap.size = g9 at *
              have H9 := Lib.hid h9
              have d6 := later (show wA.cell? ⟨g9, 6, none⟩ = some (.int .i64 m.see) from cells_at (i := 6) h9 rfl)
              clear h9
              rcases hse with hz | ⟨hz, hsb⟩
              · have Hgo' := Lib.hid (Hgo.out (seeF_key hz))
                have Hkn' : Hid (∀ (i : Nat) (z : Mn), i < k + 1 → M[i]? = some z → z.see = 1 → F z.aim = some (foldS z.aim)) := Lib.hid fun i z hi hz' h1 => by
                  rcases Nat.lt_or_ge i k with h | h
                  · exact Hkn.out i z h hz' h1
                  · obtain rfl : i = k := by omega
                    obtain rfl := Option.some.inj (Hm.out.symm.trans hz')
                    rw [hz] at h1; exact absurd h1 (by decide)
                rw [hz] at d6
                clear hz Hgo Hsome
                go_wp2_with fail
                go_roundw
                case rel => exact ⟨k + 1, n3, F, by go_num, by omega, by omega, HFA.out, HHA.out, HWA.out, HLA.out, Hkn'.out, Hgo'.out⟩
                case measure => simp [intOf]; omega
              · have Hz := Lib.hid hz
                rw [hz] at d6
                have hka := Lib.hid (keyK (s := foldS m.aim) (by have := hfm.out.2.2; omega))
                have hn2' := Hn2.out
                have HC1 := Lib.hid (of_any m.aim w0 wA fb n3 F hOA hT HFA.out (by omega) hs3)
                have d5 := later (show wA.cell? ⟨g9, 5, none⟩ = some (.string m.aim) from cells_at (i := 5) H9.out rfl)
                clear hz hsb
                by_cases hhas : hasM M (foldS m.aim)
                · have HhV : Hid (hasV D (foldS m.aim) = some (.int .i64 1)) := Lib.hid (hasV_in (by
                    obtain ⟨x, h1, h2⟩ := hhas
                    exact ⟨x.pl, (Hall.out _).2 (mem_places.2 ⟨x, h1, rfl⟩), h2⟩))
                  have Hhas := Lib.hid hhas
                  clear hhas
                  go_upto_region 29 with (first
                    | (go_at_call 48; refine HC1.out.mono ?_; rintro e w2 ⟨rfl, ⟨F2, hM2, hk2, hK2⟩, o2⟩; have HH2 := Lib.hid (HHA.out.block (o2.block hb' HHA.out.lt (fun e => Hpos.out.2.2.1 e.symm))))
                    | (refine wpList_lookup_mv rfl _ _ _ rfl 9 3 (string_keyed Tryz.underlying9) Value.string Tryz.underlying54 (.int .i64 0) zeroIntK hb' _ _ rfl HH2.out (foldS m.aim) _ rfl hka.out _ HhV.out ?_; rw [show (some (Value.int .i64 1)).getD (.int .i64 0) = .int .i64 1 from rfl]))
                  have h92 := obj_but H9.out o2 hgs.out.1
                  have t3 := later (show w2.cell? ⟨g9, 3, none⟩ = some (.string m.term) from cells_at (i := 3) h92 rfl)
                  have t5 := later (show w2.cell? ⟨g9, 5, none⟩ = some (.string m.aim) from cells_at (i := 5) h92 rfl)
                  have HL2 := Lib.hid (HLA.out.trans o2)
                  have hO2 := HL2.out.base (ho.trans hoW) hb
                  have HW2 := Lib.hid ((HWA.out.but o2 Hpos.out.1 Hpos.out.2.1))
                  have HM2 := Lib.hid (hM2.old (Old.refl w2).drew)
                  have HK2 := Lib.hid hK2
                  have H92 := Lib.hid h92
                  have HC2 := Lib.hid (of_any m.term w0 w2.drew fb (n3 + 1) F2 hO2.drew hT HM2.out (by omega) hs1)
                  have HC3 := Lib.hid (fun (V : World) (F3 : ByteArray → Option ByteArray) (o : Old w0 V) (h : Memo V fb (n3 + 1 + 1) F3) => of_any m.aim w0 V fb (n3 + 1 + 1) F3 o hT h (by omega) hs3)
                  have HU : Hid (∀ t, ∀ s ∈ wayD M D t, s ∈ M.map fun x => foldS x.aim) := Lib.hid fun t s h => by
                    obtain ⟨x, h1, _, _, h2⟩ := (wayD_edge Hsee.out foldS_nil Hall.out t s).1 h
                    exact List.mem_map.2 ⟨x, h1, h2⟩
                  have HRg := Lib.hid (fun (Z : World) (h : WS wI Z wb nW V (wayD M D)) => rings_any Z wb nW _ _ (foldS m.term) (foldS m.aim) (M.map fun x => foldS x.aim) h.ways hfm.out.2.2 HU.out (by rw [List.length_map]; omega))
                  have hE : Hid ((fun a b => b ∈ wayD M D a) = edgeM M) := Lib.hid (by funext a b; exact propext (wayD_edge Hsee.out foldS_nil Hall.out a b))
                  rw [hE.out] at HRg
                  clear HU hE d5 d6 HC1 HhV hM2 hK2 o2 h92 hk2 HWA HLA
                  go_region_held3 (fun w' => w'.cell? ⟨g9, 3, none⟩ = some (.string m.term) ∧ w'.cell? ⟨g9, 5, none⟩ = some (.string m.aim)) (first
                    | exact ⟨t3 _ (Old.refl _).drew, t5 _ (Old.refl _).drew⟩
                    | exact ⟨s3 _ (Old.refl _), s5 _ (Old.refl _)⟩
                    | exact ⟨r3 _ (Old.refl _), r5 _ (Old.refl _)⟩
                    | exact ⟨q3, q5⟩
                    | fail) (first
                    | (go_at_call 48; (with_reducible refine HC2.out.mono ?_); rintro e w4 ⟨rfl, ⟨F4, hM4, hk4, hK4⟩, o4⟩; have H94 := Lib.hid (obj_but (obj_old H92.out (Old.refl _).drew) o4 hgs.out.1); have s3 := later (show w4.cell? ⟨g9, 3, none⟩ = some (.string m.term) from cells_at (i := 3) H94.out rfl); have s5 := later (show w4.cell? ⟨g9, 5, none⟩ = some (.string m.aim) from cells_at (i := 5) H94.out rfl); have HL4 := Lib.hid ((HL2.out.old (Old.refl _).drew).trans o4); have HW4 := Lib.hid ((HW2.out.old (Old.refl _).drew).but o4 Hpos.out.1 Hpos.out.2.1); have HM4 := Lib.hid hM4; have HK4 := Lib.hid hK4; have HHH4 := Lib.hid ((HH2.out.old (Old.refl _).drew).block (o4.block hb' (HH2.out.old (Old.refl _).drew).lt (fun e => Hpos.out.2.2.1 e.symm))); clear hM4 hk4 hK4 o4)
                    | (go_at_call 48; (with_reducible refine (HC3.out _ _ (HL4.out.base (ho.trans hoW) hb) HM4.out).mono ?_); rintro e w5 ⟨rfl, ⟨F5, hM5, hk5, hK5⟩, o5⟩; have H95 := Lib.hid (obj_but H94.out o5 hgs.out.1); have r3 := later (show w5.cell? ⟨g9, 3, none⟩ = some (.string m.term) from cells_at (i := 3) H95.out rfl); have r5 := later (show w5.cell? ⟨g9, 5, none⟩ = some (.string m.aim) from cells_at (i := 5) H95.out rfl); have HL5 := Lib.hid (HL4.out.trans o5); have HW5 := Lib.hid (HW4.out.but o5 Hpos.out.1 Hpos.out.2.1); have HM5 := Lib.hid hM5; have HK5 := Lib.hid hK5; have Hk5 := Lib.hid hk5; have HHH5 := Lib.hid (HHH4.out.block (o5.block hb' HHH4.out.lt (fun e => Hpos.out.2.2.1 e.symm))); clear hM5 hk5 hK5 o5)
                    | (go_at_call 55; (with_reducible refine (HRg.out _ HW5.out).mono ?_); rintro e w6 ⟨⟨r, rfl, hr⟩, o6⟩; have H96 := Lib.hid (obj_old H95.out o6); have q3 : w6.cell? ⟨g9, 3, none⟩ = some (.string m.term) := cells_at (i := 3) H96.out rfl; have q5 : w6.cell? ⟨g9, 5, none⟩ = some (.string m.aim) := cells_at (i := 5) H96.out rfl; have HO6 := Lib.hid o6; have Hr := Lib.hid hr; clear hr o6)
                    | fail)
                  clear s3 s5 r3 r5 q3 q5 t3 t5 HC2 HC3 HRg hO2
                  cases r with
                  | true =>
                    have Hrr := Lib.hid (Hsome.out _ (seeF_92 Hz.out Hhas.out (Hr.out.1 rfl)))
                    have HW := Lib.hid (fun V => wrong_any m 92 m.aim V (by decide))
                    have D0 := later (show w6.cell? ⟨g9, 0, none⟩ = some (.int .i64 m.topic) from cells_at (i := 0) H96.out rfl)
                    have D1 := later (show w6.cell? ⟨g9, 1, none⟩ = some (.int .i64 m.src) from cells_at (i := 1) H96.out rfl)
                    have D2 := later (show w6.cell? ⟨g9, 2, none⟩ = some (.int .i64 m.line) from cells_at (i := 2) H96.out rfl)
                    have D3 := later (show w6.cell? ⟨g9, 3, none⟩ = some (.string m.term) from cells_at (i := 3) H96.out rfl)
                    have D4 := later (show w6.cell? ⟨g9, 4, none⟩ = some (.string m.sub) from cells_at (i := 4) H96.out rfl)
                    have D5 := later (show w6.cell? ⟨g9, 5, none⟩ = some (.string m.aim) from cells_at (i := 5) H96.out rfl)
                    have D6 := later (show w6.cell? ⟨g9, 6, none⟩ = some (.int .i64 m.see) from cells_at (i := 6) H96.out rfl)
                    go_wp2_with (first
                      | (go_at_call 85; refine (HW.out _).mono ?_; rintro e w7 ⟨⟨ve, rfl, hE⟩, o7⟩))
                    go_ret
                    exact ⟨.inl ⟨⟨92, m.src, m.line, 0, m.aim⟩, ve, rfl, hE, .inr ⟨HT0.out, Hrr.out⟩⟩, ((OldBut.refl fb w).old hoW).trans ((HL5.out.old HO6.out).old o7)⟩
                  | false =>
                    have Hgo' := Lib.hid (Hgo.out (seeF_ok Hhas.out (fun h => by have := Hr.out.2 h; cases this)))
                    have Hkn' : Hid (∀ (i : Nat) (z : Mn), i < k + 1 → M[i]? = some z → z.see = 1 → F5 z.aim = some (foldS z.aim)) := Lib.hid fun i z hi hz' h1 => by
                      rcases Nat.lt_or_ge i k with h | h
                      · exact HK5.out _ _ (HK4.out _ _ (HK2.out _ _ (Hkn.out i z h hz' h1)))
                      · obtain rfl : i = k := by omega
                        obtain rfl := Option.some.inj (Hm.out.symm.trans hz')
                        exact Hk5.out
                    go_wp2_with fail
                    go_roundw
                    case rel => exact ⟨k + 1, n3 + 1 + 1 + 1, F5, by go_num, by omega, by omega, HM5.out.old HO6.out, HHH5.out.old HO6.out, HW5.out.old HO6.out, HL5.out.old HO6.out, Hkn'.out, Hgo'.out⟩
                    case measure => simp [intOf]; omega
                · have HhV : Hid (hasV D (foldS m.aim) = none) := Lib.hid (hasV_out (by
                    rintro ⟨p, h1, h2⟩
                    obtain ⟨x, h3, rfl⟩ := mem_places.1 ((Hall.out _).1 h1)
                    exact hhas ⟨x, h3, h2⟩))
                  have Hr := Lib.hid (Hsome.out _ (seeF_91 Hz.out hhas))
                  have HW := Lib.hid (fun V => wrong_any m 91 m.aim V (by decide))
                  clear hhas
                  go_upto_region 28 with (first
                    | (go_at_call 48; refine HC1.out.mono ?_; rintro e w2 ⟨rfl, ⟨F2, hM2, hk2, hK2⟩, o2⟩; have HH2 := Lib.hid (HHA.out.block (o2.block hb' HHA.out.lt (fun e => Hpos.out.2.2.1 e.symm))))
                    | (refine wpList_lookup_mv rfl _ _ _ rfl 9 3 (string_keyed Tryz.underlying9) Value.string Tryz.underlying54 (.int .i64 0) zeroIntK hb' _ _ rfl HH2.out (foldS m.aim) _ rfl hka.out _ HhV.out ?_; rw [show (none : Option Value).getD (.int .i64 0) = .int .i64 0 from rfl]))
                  have h92 := obj_but H9.out o2 hgs.out.1
                  have D0 := later (show w2.cell? ⟨g9, 0, none⟩ = some (.int .i64 m.topic) from cells_at (i := 0) h92 rfl)
                  have D1 := later (show w2.cell? ⟨g9, 1, none⟩ = some (.int .i64 m.src) from cells_at (i := 1) h92 rfl)
                  have D2 := later (show w2.cell? ⟨g9, 2, none⟩ = some (.int .i64 m.line) from cells_at (i := 2) h92 rfl)
                  have D3 := later (show w2.cell? ⟨g9, 3, none⟩ = some (.string m.term) from cells_at (i := 3) h92 rfl)
                  have D4 := later (show w2.cell? ⟨g9, 4, none⟩ = some (.string m.sub) from cells_at (i := 4) h92 rfl)
                  have D5 := later (show w2.cell? ⟨g9, 5, none⟩ = some (.string m.aim) from cells_at (i := 5) h92 rfl)
                  have D6 := later (show w2.cell? ⟨g9, 6, none⟩ = some (.int .i64 m.see) from cells_at (i := 6) h92 rfl)
                  have HL2 := Lib.hid (HLA.out.trans o2)
                  clear d5 d6 HC1 HhV hM2 hk2 hK2 o2 HH2 h92
                  go_wp2_with (first
                    | (go_at_call 85; refine (HW.out _).mono ?_; rintro e w3 ⟨⟨ve, rfl, hE⟩, o3⟩))
                  go_ret
                  exact ⟨.inl ⟨⟨91, m.src, m.line, 0, m.aim⟩, ve, rfl, hE, .inr ⟨HT0.out, Hr.out⟩⟩, ((OldBut.refl fb w).old hoW).trans (HL2.out.old o3)⟩
            · obtain rfl : k = M.length := by omega
              have hi : ¬ (M.length : Int) < M.length := by omega
              have HS0 : Hid (M.findSome? (seeF M) = none) := Lib.hid (first_none fun j y hj => Hno.out j y (List.getElem?_eq_some_iff.1 hj).1 hj)
              clear Hno
              go_wp2_with fail
              go_ret
              refine ⟨.inr ⟨rfl, HT0.out, HS0.out, F, HF.out.mono (by have := Hn2.out; omega), fun m hm h1 => ?_⟩, ((OldBut.refl fb w).old hoW).trans HLO.out⟩
              obtain ⟨i, hi2⟩ := List.getElem?_of_mem hm
              exact Hkn.out i m (List.getElem?_eq_some_iff.1 hi2).1 hi2 h1
        · intro key v w2 cnt2 hNx hen
          obtain ⟨p, kl, rfl, hkey, hLp, hFp, hrg2, hlt, hg2, hs2⟩ := hNx
          obtain ⟨hpM, hpD⟩ := hLp
          have hEo : EoM M p = some (entOf M p) := if_pos hpM
          obtain rfl : Value.pointer (some ⟨B p, 0, none⟩) = v := by
            dsimp only at hFp
            rw [hEo] at hFp
            exact Option.some.inj hFp
          have HR2 := Lib.hid (HRW.out.stepR hg2 hrg2)
          have hps := pl_sizes Hfs.out hpM
          have hsee1 : ∀ s ∈ seesOf M p, s.size ≤ 4194304 ∧ (foldS s).size ≤ 4194304 := fun s hs => by
            obtain ⟨m, h1, _, _, rfl⟩ := seesOf_mem hs
            exact ⟨(Hsz.out m h1).2.2, (Hfs.out m h1).2.2⟩
          have hseel := Nat.le_trans (seesOf_length M p) hMl
          obtain ⟨pt, ps⟩ := p
          rw [show plV (pt, ps) = .agg #[.string pt, .string ps] from rfl] at hen ⊢
          have hps1 : pt.size ≤ 4194304 := hps.1
          have hps2 : ps.size ≤ 4194304 := hps.2
          have hkp := Lib.hid (keyK (s := pt) (by omega))
          have HEo := Lib.hid hEo
          have Hsee1 := Lib.hid hsee1
          have HpD := Lib.hid hpD
          have hLf : Hid ((fun z => (z ∈ places M ∧ z ∉ D) ∧ z ≠ (pt, ps)) = fun z => z ∈ places M ∧ z ∉ D ++ [(pt, ps)]) := Lib.hid (by
            funext z
            apply propext
            rw [List.mem_append, List.mem_singleton]
            constructor
            · rintro ⟨⟨h1, h2⟩, h3⟩
              exact ⟨h1, fun h => h.elim h2 h3⟩
            · rintro ⟨h1, h2⟩
              exact ⟨⟨h1, fun h => h2 (.inl h)⟩, fun h => h2 (.inr h)⟩)
          rw [hLf.out] at HR2
          have hDn : Hid ((D ++ [(pt, ps)]).Nodup) := Lib.hid (by
            rw [List.nodup_append]
            refine ⟨Hnd.out, by simp, ?_⟩
            intro x hx y hy e
            rw [List.mem_singleton] at hy
            subst hy; subst e
            exact hpD hx)
          have hDs : Hid (∀ p ∈ D ++ [(pt, ps)], p ∈ places M) := Lib.hid fun q hq => by
            rw [List.mem_append, List.mem_singleton] at hq
            rcases hq with hq | rfl
            · exact Hsub.out q hq
            · exact hpM
          have HDl : Hid ((D ++ [(pt, ps)]).length = D.length + 1) := Lib.hid (by simp)
          clear hkey hFp hrg2 hg2 hs2 hps hpM hpD hEo hLf Hnd Hsub HRW hsee1
          go_upto_region 16 with fail
          have h9 := heap_alloc_new w2 (.cells #[.string pt, .string ps] 89)
          have HRA := Lib.hid (HR2.out.old ((Old.refl w2).alloc (.cells #[.string pt, .string ps] 89)))
          have hVg : Hid ((V pt).ownBlock ≠ some w2.heap.size) := Lib.hid fun e => by
            have := (World.ownsRow.lt (HR2.out.ws.row pt) _ e).2
            omega
          have hgx : Hid (w2.heap.size ≠ fb ∧ w2.heap.size ≠ hb' ∧ w2.heap.size ≠ wb ∧ w2.heap.size < (w2.alloc (.cells #[.string pt, .string ps] 89)).heap.size) := Lib.hid (by
            have h1 := HR2.out.p1
            have h2 := HR2.out.ws.lo
            have h5 := HR2.out.p5
            have h6 := HR2.out.p6
            have h7 := HR2.out.p7
            refine ⟨by omega, by omega, by omega, by simp⟩)
          clear hen HR2
          generalize w2.alloc (.cells #[.string pt, .string ps] 89) = wA at *
          obtain ⟨g9, hg9⟩ : ∃ x, w2.heap.size = x := ⟨_, rfl⟩
          rw [hg9] at h9 hVg hgx ⊢
          have H9 := Lib.hid h9
          have d0 := later (show wA.cell? ⟨g9, 0, none⟩ = some (.string pt) from cells_at (i := 0) h9 rfl)
          clear h9 hg9
          go_upto_region 17 with (refine wpList_update_mv rfl _ _ _ _ rfl 9 3 (string_keyed Tryz.underlying9) Value.string (fun _ _ => str_kv) Tryz.underlying54 hb' nH _ rfl HRA.out.has (by omega) pt _ rfl hkp.out (.int .i64 1) rfl ?_; intro w3 hm3 hg3)
          have HR3 := Lib.hid (HRA.out.putH hg3 (H' := hasV (D ++ [(pt, ps)])) (m := nH + 1) (by rw [hasV_snoc]; exact hm3))
          have h93 := obj_grown H9.out hg3 (fun e => hgx.out.2.1 (Option.some.inj e))
          have e1 := later (show w3.cell? ⟨g9, 1, none⟩ = some (.string ps) from cells_at (i := 1) h93 rfl)
          have H93 := Lib.hid h93
          clear hm3 hg3 HRA H9 d0 h93
          by_cases hps : ps = noB
          · obtain rfl : ps = ⟨#[]⟩ := hps
            obtain ⟨sees, hsees⟩ : ∃ l, seesOf M (pt, ⟨#[]⟩) = l := ⟨_, rfl⟩
            have Hrow : Hid (∀ (wx : World) (n3 nW3 : Nat) (V3 : ByteArray → Value) (L3 : ByteArray → List ByteArray) (Lf : Pl → Prop), RW w1 wz wI wx fb bt bs bo rr hb' wb n3 (nH + 1) nW3 cnt2 k0 (termO M) (subO M) (EoM M) B TV SV own' (hasV (D ++ [(pt, ⟨#[]⟩)])) V3 L3 Lf → OwnS txE 9 w1 wx (SV (pt, ⟨#[]⟩)) sees) := Lib.hid fun wx n3 nW3 V3 L3 Lf h => hsees ▸ (h.gs.ent _ _ HEo.out).1.sees
            have hobj := (HR3.out.gs.ent _ _ HEo.out).1.obj
            obtain ⟨as', cs, hsv, _⟩ := OwnS.form (Hrow.out _ _ _ _ _ _ HR3.out)
            rw [hsv] at Hrow
            have e3 := later (show w3.cell? ⟨B (pt, ⟨#[]⟩), 3, none⟩ = some (.slice as' sees.length cs) from by rw [← hsv]; exact cells_at (i := 3) hobj rfl)
            have hsl : sees.length ≤ 1000 := hsees ▸ hseel
            have Hsee2 : Hid (∀ s ∈ sees, s.size ≤ 4194304 ∧ (foldS s).size ≤ 4194304) := Lib.hid (hsees ▸ Hsee1.out)
            have HLe : Hid ((fun q => if q = pt then sees.map foldS else wayD M D q) = wayD M (D ++ [(pt, ⟨#[]⟩)])) := Lib.hid (by rw [wayD_own (p := (pt, ⟨#[]⟩)) rfl, hsees])
            have HL0 : Hid (wayD M D = fun q => if q = pt then (sees.take 0).map foldS else wayD M D q) := Lib.hid (by
              funext q
              by_cases e : q = pt
              · subst e
                rw [if_pos rfl]
                exact wayD_new (p := (q, ⟨#[]⟩)) rfl HpD.out
              · rw [if_neg e])
            obtain ⟨wl, hwl⟩ : ∃ f, f = wayD M D := ⟨_, rfl⟩
            rw [← hwl] at HR3 HLe HL0
            rw [HL0.out] at HR3
            obtain ⟨bq, hbq⟩ : ∃ x, B (pt, ⟨#[]⟩) = x := ⟨_, rfl⟩
            rw [hbq] at e3 ⊢
            clear hobj hsees hseel Hsee1 HL0 HEo HpD hwl hsv hbq
            go_wp2_with fail
            clear e3 e1
            go_loopw [76] (fun j wx => ∃ (k n3 nW3 : Nat) (V3 : ByteArray → Value), j = .int .i64 k ∧ k ≤ sees.length ∧ n3 ≤ n2 + k ∧ nW3 ≤ nW + k ∧ RW w1 wz wI wx fb bt bs bo rr hb' wb n3 (nH + 1) nW3 cnt2 k0 (termO M) (subO M) (EoM M) B TV SV own' (hasV (D ++ [(pt, ⟨#[]⟩)])) V3 (fun q => if q = pt then (sees.take k).map foldS else wl q) (fun z => z ∈ places M ∧ z ∉ D ++ [(pt, ⟨#[]⟩)]) ∧ wx.heap[g9]? = some (.cells #[.string pt, .string ⟨#[]⟩] 89 (0, 0)) ∧ (V3 pt).ownBlock ≠ some g9) (fun j _ => sees.length - (intOf j).toNat)
            case atStart => exact ⟨0, n2, nW, V, rfl, Nat.zero_le _, Nat.le_refl _, Nat.le_refl _, HR3.out, H93.out, hVg.out⟩
            case round =>
              clear HR3 H93 hVg
              obtain ⟨k, n3, nW3, V3, rfl, hk, hn3, hnW3, hRW, h93, hVg⟩ := hrel
              have HR := Lib.hid hRW
              have H9 := Lib.hid h93
              have HVg := Lib.hid hVg
              clear hRW h93 hVg
              by_cases hlt3 : k < sees.length
              · have hi : (k : Int) < sees.length := by omega
                obtain ⟨s, hs⟩ : ∃ s, sees[k]? = some s := ⟨_, List.getElem?_eq_getElem hlt3⟩
                obtain ⟨hss, hfss⟩ := Hsee2.out s (List.mem_of_getElem? hs)
                obtain ⟨bt', ot, hat, htx⟩ := (Txts.of_recs (OwnS.recs (Hrow.out _ _ _ _ _ _ HR.out))).at1
                obtain rfl := hat (by omega)
                have ck := htx k s hs
                obtain ⟨X, hX⟩ : ∃ X, (sees.take k).map foldS = X := ⟨_, rfl⟩
                have hXl : X.length ≤ 1000 := by rw [← hX, List.length_map, List.length_take]; omega
                have HX1 : Hid ((sees.take (k + 1)).map foldS = X ++ [foldS s]) := Lib.hid (by rw [← hX, List.take_add_one, hs]; simp)
                rw [hX] at HR
                clear hat htx hs hX
                go_upto_region 21 with fail
                clear ck
                obtain ⟨F, hF⟩ := HR.out.gs.memo
                have HL0 := HR.out.lookW hkp.out
                have t0 := later (show wr.cell? ⟨g9, 0, none⟩ = some (.string pt) from cells_at (i := 0) H9.out rfl)
                have HC := Lib.hid (of_any s w0 wr.drew fb n3 F ((HR.out.lo.base (ho.trans hoW) hb).drew) hT (hF.old (Old.refl wr).drew) (by omega) hss)
                have HRd := Lib.hid (HR.out.old (Old.refl wr).drew)
                have H9d := Lib.hid (obj_old H9.out (Old.refl wr).drew)
                have hrow3 : OwnS txE 9 wI wr (V3 pt) X := by simpa using HR.out.ws.row pt
                clear hF
                go_region_held3 (fun w' => w'.cell? ⟨g9, 0, none⟩ = some (.string pt)) (first
                  | exact t0 _ (Old.refl _).drew
                  | exact t4 _ (Old.refl _)
                  | exact t4 _ ((Old.refl _).alloc _)
                  | exact t5
                  | exact t6
                  | fail) (first
                  | (go_at_call 48; refine HC.out.mono ?_; rintro e w4 ⟨rfl, ⟨F4, hM4, _, _⟩, o4⟩; have HR4 := Lib.hid (HRd.out.but o4 ⟨F4, hM4⟩); have H94 := Lib.hid (obj_but H9d.out o4 hgx.out.1); have t4 := later (show w4.cell? ⟨g9, 0, none⟩ = some (.string pt) from cells_at (i := 0) H94.out rfl); have HL4 := HR4.out.lookW hkp.out; have hs4 := HR4.out.p7; have hrow4 : OwnS txE 9 wI w4 (V3 pt) X := (by simpa using HR4.out.ws.row pt); clear hM4 o4)
                  | (refine step_append_at (c := txE) (w0 := wI) (by rfl) _ _ 43 (by rfl) 9 Tryz.underlying43 (.string ⟨#[]⟩) infoStrK rfl (Nat.zero_lt_succ 0) (V3 pt) X [foldS s] (by rfl) (hrow4.old ((Old.refl w4).alloc _)) _ (by rfl) (Recs.oneAt (c := txE) w4 9 (foldS s) rfl) (Nat.zero_lt_succ 0) (by simp; omega) (by simp; omega) (Nat.le_trans hs4 (by simp)) ?_; intro g5 cp5 w5 hown5 hg5 hat5 hlt5; have hR4a := HR4.out.old ((Old.refl w4).alloc (.cells (txE.enc (foldS s)).toArray 9)); have hk5 : KeptX (fun g => (V3 pt).ownBlock = some g) _ w5 := KeptX.of_grown hg5 (fun g e => e); have hmp5 := hR4a.ws.mp.block (hk5.block wb hR4a.ws.mp.lt (fun e => absurd (World.ownsRow.lt (hR4a.ws.row pt) wb e).1 (Nat.not_le_of_lt hR4a.ws.lo))); obtain ⟨w6, hrun6, hm6, hg6⟩ := hmp5.upd (string_keyed Tryz.underlying9) (fun _ _ => str_kv) Tryz.underlying102 (by omega) hkp.out (.slice (some ⟨g5, 0, none⟩) (X.length + 1) cp5); have H95 := Lib.hid (obj_grown (obj_old H94.out ((Old.refl w4).alloc _)) hg5 (fun e => HVg.out e.symm)); have H96 := Lib.hid (obj_grown H95.out hg6 (fun e => hgx.out.2.2.1 (Option.some.inj e))); have t5 : w5.cell? ⟨g9, 0, none⟩ = some (.string pt) := cells_at (i := 0) H95.out rfl; have t6 : w6.cell? ⟨g9, 0, none⟩ = some (.string pt) := cells_at (i := 0) H96.out rfl; have HRa := Lib.hid hR4a; have Hown5 := Lib.hid hown5; have Hg5 := Lib.hid hg5; have Hat5 := Lib.hid hat5; have Hm6 := Lib.hid hm6; have Hg6 := Lib.hid hg6; clear hown5 hg5 hat5 hlt5 hR4a hk5 hmp5 hm6 hg6)
                  | fail)
                all_goals
                  have hg5' : g5 ≠ g9 := by
                    rcases Hat5.out with e | e
                    · intro k; exact HVg.out (k ▸ e)
                    · intro k
                      have h1 := (Array.getElem?_eq_some_iff.1 H94.out).1
                      have h2 : w4.heap.size < (w4.alloc (.cells (txE.enc (foldS s)).toArray 9)).heap.size := by simp
                      have e' : g5 = w4.heap.size + 1 := by simpa using e
                      omega
                  have hR7 := HRa.out.putW (t := pt) (x := foldS s) (u := .slice (some ⟨g5, 0, none⟩) (X.length + 1) cp5) (g := g5) hfss (by simpa using Hown5.out) Hg5.out rfl Hat5.out Hm6.out Hg6.out
                  rw [show (fun q => if q = pt then (fun q => if q = pt then X else wl q) pt ++ [foldS s] else (fun q => if q = pt then X else wl q) q) = fun q => if q = pt then (sees.take (k + 1)).map foldS else wl q from by
                    funext q
                    by_cases e : q = pt
                    · rw [if_pos e, if_pos e, HX1.out]
                      simp
                    · rw [if_neg e, if_neg e]
                      simp [e]] at hR7
                  have HR7 := Lib.hid hR7
                  have Hg59 := Lib.hid hg5'
                  clear hR7 hg5' HRa Hown5 Hg5 Hat5 Hm6 Hg6 hrun6 t5 t6 H95 HR4 H94 t4 HL4 hs4 hrow4 t0 HRd H9d HL0 hrow3 HC HX1
                  go_wp2_with fail
                  go_roundw
                  case rel => exact ⟨k + 1, n3 + 1, nW3 + 1, _, by go_num, by omega, by omega, by omega, HR7.out, H96.out, by rw [if_pos rfl]; intro e; exact Hg59.out (Option.some.inj e)⟩
                  case measure => simp [intOf]; omega
              · obtain rfl : k = sees.length := by omega
                have hi : ¬ (sees.length : Int) < sees.length := by omega
                rw [List.take_length, HLe.out] at HR
                go_wp2_with fail
                go_roundg cnt2
                case measure => omega
                case rel => exact ⟨n3, nH + 1, nW3, cnt2, D ++ [(pt, ⟨#[]⟩)], V3, Nat.le_refl _, hDn.out, hDs.out, by rw [HDl.out]; omega, by rw [HDl.out]; omega, by rw [HDl.out]; omega, HR.out⟩
          · have hn := str_nilK hps
            have HL : Hid (wayD M (D ++ [(pt, ps)]) = wayD M D) := Lib.hid (wayD_other hps)
            clear hps
            go_wp2_with fail
            go_roundg cnt2
            case measure => omega
            case rel => exact ⟨n2, nH + 1, nW, cnt2, D ++ [(pt, ps)], V, Nat.le_refl _, hDn.out, hDs.out, by rw [HDl.out]; omega, by rw [HDl.out]; omega, by rw [HDl.out]; omega, by rw [HL.out]; exact HR3.out⟩
end Go.Proofs.YtohngjkedhpikaaGreatDoor
