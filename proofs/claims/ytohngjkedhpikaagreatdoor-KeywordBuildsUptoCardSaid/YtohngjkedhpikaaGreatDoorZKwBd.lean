/-
  KEYWORD, BD: Build: the index of sources, or the first fault.
-/
import Derived.Test.YtohngjkedhpikaaGreatDoorZKwX
import Derived.Test.YtohngjkedhpikaaGreatDoorZKwBW
import Derived.Test.YtohngjkedhpikaaGreatDoorZKwM
namespace Go.Proofs.YtohngjkedhpikaaGreatDoor
open Go.RowKit Go.Maps
attribute [local go_sem] Old.refl Old.alloc Old.drew Old.setCell OldW.old

/-- what Build hands back -/
def RetB (w' : World) (ns nt : Nat) (M : List Mn) (e : Ending) : Prop :=
  (∃ f v, buildK ns nt M = .error f ∧ e = .returned (.tuple #[.slice none 0 0, v]) ∧ IsErr w' v f.code f.src f.line f.col f.word) ∨
  (∃ l u, buildK ns nt M = .ok l ∧ e = .returned (.tuple #[u, .nilIface]) ∧ Ents w' u l)
theorem MapV.len {κ : Type} {P : Program} {k e : TypeId} {kv : κ → Value} {w : World} {b n : Nat} {F : κ → Option Value} (h : MapV P k kv w b n F) {t : TypeId} (ht : P.underlying t = some (.map k e)) :
    ∃ c : Nat, c ≤ n ∧ ∀ ty, (Builtin.len_ #[t] ty #[.map (some b)]).run P w = .ok (.int .i64 c) w := by
  obtain ⟨D, h1, _⟩ := h
  exact ⟨_, h1.size_le, fun ty => h1.len ht ty⟩
theorem infoPl : (Tryz.prog.info? 89).map (fun i => (i.zero, i.size, i.bytes)) = some (some (.agg #[.string ⟨#[]⟩, .string ⟨#[]⟩]), 2, 32) := by kernel_rfl
theorem infoEn : (Tryz.prog.info? 45).map (fun i => (i.zero, i.size, i.bytes)) = some (some (.agg #[.string ⟨#[]⟩, .string ⟨#[]⟩, .slice none 0 0, .slice none 0 0]), 4, 80) := by kernel_rfl
theorem RetR.val {w' : World} {fb n : Nat} {M : List Mn} {e : Ending} (h : RetR w' fb n M e) : ∃ v, e = .returned v ∧ ((∃ f, IsErr w' v f.code f.src f.line f.col f.word ∧ (M.findSome? termF = some f ∨ (M.findSome? termF = none ∧ M.findSome? (seeF M) = some f))) ∨
    (v = .nilIface ∧ M.findSome? termF = none ∧ M.findSome? (seeF M) = none ∧ ∃ F, Memo w' fb n F ∧ ∀ m ∈ M, m.see = 1 → F m.aim = some (foldS m.aim))) := by
  rcases h with ⟨f, v, rfl, h1, h2⟩ | ⟨rfl, h1, h2, h3⟩
  · exact ⟨v, rfl, .inl ⟨f, h1, h2⟩⟩
  · exact ⟨_, rfl, .inr ⟨rfl, h1, h2, h3⟩⟩
set_option maxRecDepth 100000 in
set_option maxHeartbeats 3200000 in
theorem Build_any (v : Value) (S : List (List Tk)) (w : World) (hv : Srk w v S) (hT : Tabs w) (hM : (mns S S.length).length ≤ 1000) (ht : totK S S.length ≤ 1000)
    (hsz : ∀ m ∈ mns S S.length, m.term.size ≤ 4194304 ∧ m.sub.size ≤ 4194304 ∧ m.aim.size ≤ 4194304) (hfs : ∀ m ∈ mns S S.length, (foldS m.term).size ≤ 4194304 ∧ (foldS m.sub).size ≤ 4194304 ∧ (foldS m.aim).size ≤ 4194304) :
    Calls Tryz.prog 11 #[v] w fun e w' => RetB w' S.length (totK S S.length) (mns S S.length) e ∧ Old w w' := by
  obtain ⟨M, hMe⟩ : ∃ M, mns S S.length = M := ⟨_, rfl⟩
  rw [hMe] at hM hsz hfs ⊢
  obtain ⟨a, cap, rfl, hc1, hc2⟩ := Seqs.form hv
  obtain ⟨bs, os, has, hats⟩ := Srk.open hv
  have Hv := Lib.hid hv
  have Has := Lib.hid has
  have Hats := Lib.hid hats
  have HT := Lib.hid hT
  have Hsz := Lib.hid hsz
  have Hfs := Lib.hid hfs
  have Hsee := Lib.hid (fun m (hm : m ∈ M) => mns_see (S := S) (c := S.length) (m := m) (by rw [hMe]; exact hm))
  have HMe := Lib.hid hMe
  have hmm := @run_makeMap Tryz.prog
  clear hv has hats hT hsz hfs hMe
  go_enter Tryz.func11, Tryz.ntmps11
  go_wp2_with fail
  go_loopw [4, 19] (fun x j wr => ∃ (i : Nat), j = .int .i64 i ∧ x = .int .i64 (totK S i) ∧ i ≤ S.length ∧ Old w wr) (fun _ j _ => S.length - (intOf j).toNat)
  case atStart => exact ⟨0, rfl, rfl, Nat.zero_le _, Old.refl _⟩
  case round =>
    obtain ⟨i, rfl, rfl, hi, ho⟩ := hrel
    by_cases hlt : i < S.length
    · have hi1 : (i : Int) < S.length := by omega
      obtain ⟨T, hTi⟩ : ∃ T, S[i]? = some T := ⟨_, List.getElem?_eq_getElem hlt⟩
      obtain ⟨a0, n0, c0', ax, cx, hcs, hTs, k1, k2⟩ := Hats.out i T hTi
      obtain rfl := Has.out (by omega)
      have c0 : ∀ V, Old wr V → V.cell? ⟨bs, os + i * 2, none⟩ = some (.slice a0 n0 c0') := fun V o => (hcs V (ho.trans o)).1
      have c1 : ∀ V, Old wr V → V.cell? ⟨bs, os + i * 2 + 1, none⟩ = some (.slice ax T.length cx) := fun V o => (hcs V (ho.trans o)).2
      have hsu := totK_succ hTi
      have hmo := totK_mono S (show i + 1 ≤ S.length from hlt)
      have Hsu : Hid (totK S (i + 1) = totK S i + T.length) := Lib.hid hsu
      have hb2 : (totK S i : Int) + T.length ≤ 9223372036854775807 := by omega
      clear hcs hTs hTi hsu hmo
      go_wp2_with fail
      go_roundw
      case rel => exact ⟨i + 1, by go_num, by rw [Hsu.out]; go_num, by omega, ho.alloc _⟩
      case measure => simp [intOf]; omega
    · obtain rfl : i = S.length := by omega
      have hi1 : ¬ (S.length : Int) < S.length := by omega
      have hbi : ¬ (1000 : Int) < totK S S.length := by omega
      by_cases h64 : 64 < S.length
      · have hi64 : (64 : Int) < S.length := by omega
        have HC := Lib.hid (FCodeK_any 2 wr (by decide))
        go_wp2_with (go_at_call 39; refine HC.out.mono ?_; rintro e w1 ⟨⟨v, rfl, hE⟩, o1⟩)
        go_ret2
        exact ⟨.inl ⟨longF, v, buildK_long (.inl h64), rfl, hE⟩, ho.trans o1⟩
      · have hi64 : ¬ (64 : Int) < S.length := by omega
        have H64 : Hid (¬ (64 < S.length ∨ 1000 < totK S S.length)) := Lib.hid (by omega)
        have HMn := Lib.hid (mentions_any _ S wr (Hv.out.old ho) (by rw [HMe.out]; omega) (by omega))
        rw [HMe.out] at HMn
        clear h64
        go_upto_region 10 with (go_at_call 40; refine HMn.out.mono ?_; rintro e w1 ⟨⟨u, rfl, hown⟩, o1⟩)
        obtain ⟨aM, cM, rfl, hcm1, hcm2⟩ := hown.form
        have Hrec := Lib.hid hown.recs
        have Ho1 := Lib.hid (ho.trans o1)
        have HT1 := Lib.hid (HT.out.old (ho.trans o1))
        clear hown HMn ho o1 Hats Has Hv HT hcm1 hcm2 hc1 hc2 hi64 hbi hi1
        go_upto_region 11 with fail
        have h8 := heap_alloc_new (w1.alloc (.map #[] 0)) (.cells #[.map (some w1.heap.size)] 83)
        have hMm : Memo ((w1.alloc (.map #[] 0)).alloc (.cells #[.map (some w1.heap.size)] 83)) w1.heap.size 0 (fun _ => none) := (Memo.made w1).old ((Old.refl _).alloc _)
        have oX : Old w1 ((w1.alloc (.map #[] 0)).alloc (.cells #[.map (some w1.heap.size)] 83)) := ((Old.refl w1).alloc _).alloc _
        have hsX : ((w1.alloc (.map #[] 0)).alloc (.cells #[.map (some w1.heap.size)] 83)).heap.size = w1.heap.size + 2 := by simp
        have h8s : (w1.alloc (.map #[] 0)).heap.size = w1.heap.size + 1 := by simp
        rw [h8s] at h8
        generalize (w1.alloc (.map #[] 0)).alloc (.cells #[.map (some w1.heap.size)] 83) = wX at *
        clear h8s
        obtain ⟨fb, hfb⟩ : ∃ x, w1.heap.size = x := ⟨_, rfl⟩
        rw [hfb] at h8 hMm hsX ⊢
        obtain ⟨bx, hbx⟩ : ∃ x, fb + 1 = x := ⟨_, rfl⟩
        rw [hbx] at h8 ⊢
        have H8 := Lib.hid h8
        have d8 := later (show wX.cell? ⟨bx, 0, none⟩ = some (.map (some fb)) from cells_at (i := 0) h8 rfl)
        have HoX := Lib.hid oX
        have HpX : Hid (w1.heap.size = fb ∧ fb + 1 = bx ∧ wX.heap.size = fb + 2) := Lib.hid ⟨hfb, hbx, hsX⟩
        have HG := Lib.hid (gathered_any (.slice aM M.length cM) M w1 wX fb 0 Hrec.out oX HT1.out (Nat.le_of_eq hfb) ⟨_, hMm⟩ (by omega) (by omega) Hsz.out (fun m hm => ⟨by have := (Hfs.out m hm).1; omega, by have := (Hfs.out m hm).2.1; omega⟩) (fun m hm => by rcases Hsee.out m hm with h | h; exact .inl h; exact .inr h.1))
        clear h8 hMm oX hsX hfb hbx
        go_upto_region 12 with (go_at_call 41; refine HG.out.mono ?_; rintro e w2 ⟨⟨bt, bs', bo, n', k, B, TV, SV, own, rfl, hGS, hn', hk, hbo⟩, o2⟩)
        have HGS := Lib.hid hGS
        obtain ⟨cl, hcl, hlen⟩ := hGS.mo.len Tryz.underlying84
        have Ho2 := Lib.hid o2
        have H82 := Lib.hid (obj_but H8.out o2 (by have := HpX.out; omega))
        have d82 := later (show w2.cell? ⟨bx, 0, none⟩ = some (.map (some fb)) from cells_at (i := 0) H82.out rfl)
        have hcl2 : ¬ (10000 : Int) < cl := by omega
        have Hn' : Hid (n' ≤ 1000 * 200002 ∧ wX.heap.size ≤ bo) := Lib.hid ⟨by have := Nat.mul_le_mul_right 200002 hM; omega, hbo⟩
        clear hGS d8 HG hn' hbo o2
        have HR := Lib.hid (refused_any (.slice aM M.length cM) M w1 wX w2 fb bt bs' bo n' k B TV SV own Hrec.out (Ho2.out.base HoX.out (by have := HpX.out; omega)) HT1.out (by have := HpX.out; omega) HGS.out (by have := Hn'.out; omega) hM Hsz.out Hfs.out Hsee.out)
        go_upto_region 15 with (go_at_call 42; refine HR.out.mono ?_; rintro e w3 ⟨hR, o3⟩; obtain ⟨ve, rfl, hve⟩ := hR.val; clear hR)
        have Ho3 := Lib.hid o3
        have Hpl : Hid (¬ 10000 < (places M).length) := Lib.hid (by have := places_length M; omega)
        clear o3 HR hlen hcl hcl2 d82
        rcases hve with ⟨f, hE, hor⟩ | ⟨rfl, ht1, ht2, F, hF, hkn⟩
        · have HE := Lib.hid hE
          have Hor := Lib.hid hor
          obtain ⟨g, rfl, _⟩ := hE
          clear hor
          go_wp2_with fail
          go_ret2
          refine ⟨.inl ⟨f, _, ?_, rfl, HE.out⟩, ?_⟩
          · rcases Hor.out with h | ⟨h1, h2⟩
            · exact buildK_term H64.out Hpl.out h
            · exact buildK_see H64.out Hpl.out h1 h2
          · exact Ho1.out.trans ((Ho2.out.trans Ho3.out).base HoX.out (by have := HpX.out; omega))
        · have Hok : Hid (buildK S.length (totK S S.length) M = .ok (ixOf M)) := Lib.hid (buildK_ok H64.out Hpl.out ht1 ht2)
          have HF := Lib.hid hF
          have Hkn := Lib.hid hkn
          have HG3 := Lib.hid (HGS.out.but Ho3.out ⟨F, hF⟩)
          have H83 := Lib.hid (obj_but H82.out Ho3.out (by have := HpX.out; omega))
          have Ho13 := Lib.hid ((Ho2.out.trans Ho3.out).base HoX.out (Nat.le_of_eq HpX.out.1))
          have hs3 : wX.heap.size ≤ w3.heap.size := Nat.le_trans Ho2.out.size Ho3.out.size
          clear ht1 ht2 hF hkn HGS H82 H8 Hpl
          go_upto_region 18 with fail
          go_wp2_with (at_range; refine wpList_range_mv rfl _ _ rfl 89 92 keyedPl plV Tryz.underlying84 bo k _ rfl HG3.out.mo ?_; intro wI cnt hrg hgI hsI)
          try go_frame
          have hrg0 : MapR Tryz.prog 89 plV wI bo w3.heap.size k (fun p => (EoM M p).map fun _ => .pointer (some ⟨B p, 0, none⟩)) (fun p => p ∈ places M ∧ p ∉ ([] : List Pl)) cnt := by
            rw [show (fun p => p ∈ places M ∧ p ∉ ([] : List Pl)) = (fun p => ((EoM M p).map fun _ => Value.pointer (some ⟨B p, 0, none⟩)).isSome = true) from by
              funext p
              unfold EoM
              by_cases hp : p ∈ places M <;> simp [hp]]
            exact hrg
          have oI : Old w3 wI := (Old.refl w3).grown hgI (fun k e => by cases e)
          obtain ⟨rr, hrr⟩ : ∃ x, w3.heap.size = x := ⟨_, rfl⟩
          have Hrr : Hid (w3.heap.size = rr ∧ wI.heap.size = rr + 1) := Lib.hid ⟨hrr, by omega⟩
          rw [hrr] at hrg0 ⊢
          have HR0 := Lib.hid hrg0
          have HoI := Lib.hid oI
          clear hrg hrg0 hgI hsI oI hrr
          go_loopg [11] cnt (fun c u wr => ∃ (cn : Nat) (D : List Pl), cn ≤ c ∧ D.Nodup ∧ (∀ p ∈ D, p ∈ places M) ∧ OwnS plcE 89 wI wr u D ∧ MapR Tryz.prog 89 plV wr bo rr k (fun p => (EoM M p).map fun _ => .pointer (some ⟨B p, 0, none⟩)) (fun p => p ∈ places M ∧ p ∉ D) cn ∧ Old w3 wr ∧ wI.heap.size ≤ wr.heap.size)
          case atStart => exact ⟨cnt, [], Nat.le_refl _, List.nodup_nil, by simp, OwnS.nil _ _ _ _, HR0.out, HoI.out, Nat.le_refl _⟩
          case round =>
            clear HR0
            obtain ⟨cn, D, hcn, hnd, hsub, hown, hmr, ho, hsz⟩ := hrel
            have HO := Lib.hid hown
            have HMR := Lib.hid hmr
            have Ho := Lib.hid ho
            have Hnd := Lib.hid hnd
            have Hsub := Lib.hid hsub
            have hDl : D.length ≤ 1000 := Nat.le_trans (nodup_le hnd hsub) (Nat.le_trans (places_length M) hM)
            clear hown hmr ho hnd hsub
            go_wp2_with (at_next; refine wpList_next_mw rfl _ rfl 89 keyedPl plV (fun _ _ => plV_inj) bo rr k _ _ cn rfl HMR.out ?_ ?_)
            · intro hl0
              have hall : ∀ p, p ∈ D ↔ p ∈ places M := fun p => ⟨Hsub.out p, fun hp => by
                obtain ⟨k1, k2⟩ := pl_sizes Hfs.out hp
                obtain ⟨kl, hkl⟩ := keyPl p (by omega) (by omega)
                exact Classical.byContradiction fun h => hl0 p kl hkl ⟨hp, h⟩⟩
              have hperm : D.Perm (places M) := (List.perm_ext_iff_of_nodup Hnd.out (places_nodup M)).2 hall
              have hsrt : Hid (srt cmpP D = srt cmpP (places M)) := Lib.hid (srt_unique cmpP_ord (fun i j _ _ h => cmpP_zero.1 h) ((srt_perm D).trans hperm) (srt_sorted cmpP_ord D))
              have hps : Hid (∀ p ∈ D, p.1.size ≤ 4194304 ∧ p.2.size ≤ 4194304) := Lib.hid fun p hp => pl_sizes Hfs.out (Hsub.out p hp)
              have hDlen : D.length = (places M).length := hperm.length_eq
              have HDlen := Lib.hid hDlen
              clear hl0 hall hperm hDlen Hnd Hsub HMR
              obtain ⟨aL, cL, rfl, hcL1, hcL2⟩ := HO.out.form
              have HT3 := Lib.hid (HT1.out.old Ho13.out)
              have HS := Lib.hid (sortK_any D cmpP cmpP_ord (fun i j _ _ h => cmpP_zero.1 h) (fun p => p.1.size ≤ 4194304 ∧ p.2.size ≤ 4194304) hps.out 44 #[] (enters_of Tryz.func44 (by kernel_rfl) rfl) wI wr aL cL HO.out (by omega) (fun W hg s t hs ht => by
                have hTW := HT3.out.old (Ho.out.grown hg fun g e => by have := (World.ownsRow.lt HO.out g e).1; have := Hrr.out; omega)
                exact order_any s t W hTW hs.1 hs.2 ht.1 ht.2))
              go_upto_region 23 with (go_at_call 43; refine HS.out.mono ?_; rintro e w5 ⟨rfl, hown5, hg5⟩)
              obtain ⟨L, hL⟩ : ∃ L, srt cmpP (places M) = L := ⟨_, rfl⟩
              rw [hsrt.out, hL] at hown5
              have hLl : D.length = L.length := by rw [← hL, srt_length]; exact HDlen.out
              have hixL : Hid (ixOf M = L.map (ixE M)) := Lib.hid (by unfold ixOf; rw [hL])
              have hLm : Hid (∀ p ∈ L, p ∈ places M) := Lib.hid fun p hp => by rw [← hL] at hp; exact srt_mem.1 hp
              have hLn : Hid L.Nodup := Lib.hid (by rw [← hL]; exact srt_nodup (places_nodup M))
              have ho5 := Ho.out.grown hg5 fun g e => by have := (World.ownsRow.lt HO.out g e).1; have := Hrr.out; omega
              have hw5s : wI.heap.size ≤ w5.heap.size := Nat.le_trans hsz hg5.size
              rw [hLl] at hown5 ⊢
              have hLl2 : L.length ≤ 1000 := by omega
              have HW5 := Lib.hid hown5
              have Ho5 := Lib.hid ho5
              clear HS hps hsrt HDlen hL hown5 ho5 hg5 HO Ho hLl hDl hcL1 hcL2 hsz
              have hBW : ∃ own, BW w1 wX w5 fb bt bs' bo bx (n' + 2000000) k (termO M) (subO M) (EoL M (L.take 0)) B TV SV own F (.slice aL L.length cL) L (.slice none 0 0) [] := by
                have hG5 := HG3.out.cut2.old Ho5.out
                refine ⟨fun g => if wX.heap.size ≤ g ∧ g < w3.heap.size then own g else none, ⟨?_, HF.out.old Ho5.out, obj_old H83.out Ho5.out, ?_, HW5.out.lower (by have := Hrr.out; omega), fun g hg => ?_, OwnS.nil _ _ _ _, fun g hg => by simp [Value.ownBlock] at hg, Ho13.out.trans Ho5.out, by have := Hrr.out; omega, by have := HpX.out; omega, fun g hg => ?_⟩⟩
                · rw [List.take_zero, EoL_nil]; exact hG5
                · show (if wX.heap.size ≤ bx ∧ bx < w3.heap.size then own bx else none) = none
                  rw [if_neg (by have := HpX.out; omega)]
                · show (if wX.heap.size ≤ g ∧ g < w3.heap.size then own g else none) = none
                  rw [if_neg (by have := (World.ownsRow.lt HW5.out g hg).1; have := Hrr.out; omega)]
                · show (if wX.heap.size ≤ g ∧ g < w3.heap.size then own g else none) = none
                  rw [if_neg (by have := Hrr.out; omega)]
              obtain ⟨own0, hBW⟩ := hBW
              have HBW := Lib.hid hBW
              clear hBW
              go_wp2_with fail
              go_loopw [13, 68] (fun u j wx => ∃ (i : Nat) (own : Nat → Option Pl) (xs : List Er), j = .int .i64 i ∧ i ≤ L.length ∧ BW w1 wX wx fb bt bs' bo bx (n' + 2000000) k (termO M) (subO M) (EoL M (L.take i)) B TV SV own F (.slice aL L.length cL) L u xs ∧ xs.length = i ∧ (∀ (q : Nat) (x : Er) (p : Pl), xs[q]? = some x → L[q]? = some p → x.term = (entOf M p).term ∧ x.sub = (entOf M p).sub ∧ x.s2.v = TV p ∧ x.s3.v = SV p)) (fun _ j _ => L.length - (intOf j).toNat)
              case atStart => exact ⟨0, own0, [], rfl, Nat.zero_le _, HBW.out, rfl, fun q x p h => by simp at h⟩
              case round =>
                clear HBW
                obtain ⟨i, ownI, xs, rfl, hi, hBW, hxl, hxs⟩ := hrel
                have HB := Lib.hid hBW
                have Hxs := Lib.hid hxs
                have Hxl := Lib.hid hxl
                have hxl1 : xs.length ≤ 1000 := by omega
                clear hBW hxs hxl
                by_cases hlt : i < L.length
                · have hi1 : (i : Int) < L.length := by omega
                  obtain ⟨p, hp⟩ : ∃ p, L[i]? = some p := ⟨_, List.getElem?_eq_getElem hlt⟩
                  have hpM := hLm.out p (List.mem_of_getElem? hp)
                  have hpt : ¬ p ∈ L.take i := fun h => by
                    obtain ⟨j, hj⟩ := List.getElem?_of_mem h
                    have hji : j < i := by
                      have := (List.getElem?_eq_some_iff.1 hj).1
                      rw [List.length_take] at this
                      omega
                    rw [List.getElem?_take_of_lt hji] at hj
                    have h1 := List.getElem?_eq_some_iff.1 hj
                    have h2 := List.getElem?_eq_some_iff.1 hp
                    have := (List.getElem_inj (h₀ := h1.1) (h₁ := h2.1) hLn.out).1 (h1.2.trans h2.2.symm)
                    omega
                  have hEo : EoL M (L.take i) p = some (entOf M p) := by
                    unfold EoL
                    rw [if_neg hpt]
                    exact if_pos hpM
                  have hF1 : (fun p => (EoL M (L.take i) p).map fun _ => Value.pointer (some ⟨B p, 0, none⟩)) p = some (.pointer (some ⟨B p, 0, none⟩)) := by
                    dsimp only
                    rw [hEo]; rfl
                  obtain ⟨hE, hO⟩ := HB.out.gs.ent p _ hEo
                  obtain ⟨a2, c2, a3, c3, htv, hsv⟩ := hE.forms
                  obtain ⟨hq1, hq2⟩ := pl_sizes Hfs.out hpM
                  obtain ⟨kl, hkl⟩ := keyPl p (by omega) (by omega)
                  obtain ⟨gl, rfl, _, _⟩ := HB.out.pl.block (by omega)
                  have c0 := later (show wr.cell? ⟨gl, i * 2, none⟩ = some (.string p.1) from HB.out.pl.cell hp (j := 0) rfl)
                  have c1 := later (show wr.cell? ⟨gl, i * 2 + 1, none⟩ = some (.string p.2) from HB.out.pl.cell hp (j := 1) rfl)
                  have Hp := Lib.hid hp
                  have HEo := Lib.hid hEo
                  have HF1 := Lib.hid hF1
                  have HE := Lib.hid hE
                  have HOw := Lib.hid hO
                  have Htv := Lib.hid htv
                  have Hsv := Lib.hid hsv
                  have Hkl := Lib.hid hkl
                  have HpM := Lib.hid hpM
                  clear hp hEo hF1 hE hO htv hsv hkl hpM hpt
                  obtain ⟨au, cu, rfl, hcu1, hcu2⟩ := HB.out.out.form
                  go_upto_region 27 with fail
                  have h9 := heap_alloc_new wr (.cells #[.string p.1, .string p.2] 89)
                  have HBA := Lib.hid (HB.out.ol ((Old.refl wr).alloc (.cells #[.string p.1, .string p.2] 89)))
                  generalize wr.alloc (.cells #[.string p.1, .string p.2] 89) = wA at *
                  generalize wr.heap.size = g9 at *
                  have e0 := later (show wA.cell? ⟨g9, 0, none⟩ = some (.string p.1) from cells_at (i := 0) h9 rfl)
                  have e1 := later (show wA.cell? ⟨g9, 1, none⟩ = some (.string p.2) from cells_at (i := 1) h9 rfl)
                  clear h9 c0 c1 HB
                  go_upto_region 28 with (refine wpList_lookup_mv rfl _ _ _ rfl 89 92 keyedPl plV Tryz.underlying84 (.pointer none) zeroEntK bo _ _ rfl HBA.out.gs.mo p _ rfl Hkl.out (some (.pointer (some ⟨B p, 0, none⟩))) HF1.out ?_; rw [show (some (Value.pointer (some ⟨B p, 0, none⟩))).getD (.pointer none) = .pointer (some ⟨B p, 0, none⟩) from rfl])
                  have hEA := HBA.out.gs.ent p _ HEo.out
                  have hsl : (seesOf M p).length ≤ 1000 := Nat.le_trans (seesOf_length M p) hM
                  have e3 := later (show wA.cell? ⟨B p, 3, none⟩ = some (.slice a3 (seesOf M p).length c3) from by
                    have := cells_at (i := 3) hEA.1.obj rfl
                    rw [this, Hsv.out]; rfl)
                  have hrow : OwnS txE 9 wX wA (.slice a3 (seesOf M p).length c3) (seesOf M p) := by
                    have h := hEA.1.sees
                    rw [Hsv.out] at h
                    exact h
                  have hob : ∀ g, (Value.slice a3 (seesOf M p).length c3).ownBlock = some g → ownI g = some p := fun g hg => (hEA.2.s g (by rw [Hsv.out]; exact hg)).1
                  have HS := Lib.hid (sortS_any (seesOf M p) cmpS cmpS_ord sees_one (fun s => F s = some (foldS s) ∧ s.size ≤ 4194304 ∧ (foldS s).size ≤ 4194304) (fun s hs => by
                    obtain ⟨m, h1, h2, h3, rfl⟩ := seesOf_mem hs
                    exact ⟨Hkn.out m h1 h3, (Hsz.out m h1).2.2, (Hfs.out m h1).2.2⟩) 46 #[.pointer (some ⟨bx, 0, none⟩)] (enters_of Tryz.func46 (by kernel_rfl) rfl) wX wA a3 c3 hrow (by omega) (fun W hg s t hs ht => by
                      have hTW := HT1.out.old (HBA.out.old.grown hg fun g e => by have := (World.ownsRow.lt hrow g e).1; have := HBA.out.s1; omega)
                      have hbW : W.heap[bx]? = some (.cells #[.map (some fb)] 83 (0, 0)) := obj_grown HBA.out.box hg fun e => not_own HBA.out.obx (hob bx e.symm)
                      have hMW := HBA.out.memo.kept hg fun e => not_own HBA.out.gs.ff (hob fb e.symm)
                      exact Build1_any s t W bx fb _ F hTW (cells_at (i := 0) hbW rfl) hMW hs.1 ht.1 hs.2.1 ht.2.1 hs.2.2 ht.2.2))
                  have htk : L.take (i + 1) = L.take i ++ [p] := by rw [List.take_add_one, Hp.out]; rfl
                  have Htk := Lib.hid htk
                  clear hEA hob htk e0 e1
                  go_upto_region 29 with (go_at_call 45; refine HS.out.mono ?_; rintro e w6 ⟨rfl, hown6, hg6⟩)
                  obtain ⟨own6, hB6⟩ := HBA.out.sort (p := p) HEo.out (by rw [Hsv.out]; exact hg6) (by rw [Hsv.out]; exact hown6)
                  rw [EoL_snoc, ← Htk.out] at hB6
                  have hobj := (hB6.gs.ent p (ixE M p) (if_pos (by rw [Htk.out]; simp))).1.obj
                  rw [Htv.out, Hsv.out] at hobj
                  have f0 := later (show w6.cell? ⟨B p, 0, none⟩ = some (.string (entOf M p).term) from cells_at (i := 0) hobj rfl)
                  have f1 := later (show w6.cell? ⟨B p, 1, none⟩ = some (.string (entOf M p).sub) from cells_at (i := 1) hobj rfl)
                  have f2 := later (show w6.cell? ⟨B p, 2, none⟩ = some (.slice a2 (topicsOf M p).length c2) from cells_at (i := 2) hobj rfl)
                  have f3 := later (show w6.cell? ⟨B p, 3, none⟩ = some (.slice a3 (seesOf M p).length c3) from cells_at (i := 3) hobj rfl)
                  have HB6 := Lib.hid hB6
                  clear hB6 hobj hown6 hg6 HS hrow e3 HBA
                  obtain ⟨x, hx⟩ : ∃ x : Er, x = ⟨(entOf M p).term, (entOf M p).sub, (a2, (topicsOf M p).length, c2), (a3, (seesOf M p).length, c3)⟩ := ⟨_, rfl⟩
                  have hsz6 := HB6.out.sz
                  have Hx := Lib.hid hx
                  go_wp2_with (at_builtin; go_loud (refine wpList_append_at (c := erE) (w0 := wX) rfl _ _ 25 rfl 45 Tryz.underlying25 _ infoEn rfl (Nat.zero_lt_succ 3) _ xs [x] rfl (HB6.out.out.alloc _) _ rfl (by rw [hx]; exact Recs.oneAt (c := erE) _ 45 _ (by simp [go_sem])) (Nat.zero_lt_succ 0) (by simp; omega) (by simp; omega) (by simp; omega) ?_); intro g5 cp5 w5' hown5 hg5 hat5 hlt5)
                  have HB5 := Lib.hid ((HB6.out.ol ((Old.refl w6).alloc _)).app hg5 hown5 rfl hat5)
                  have Hx5 : Hid (∀ (q : Nat) (y : Er) (r : Pl), (xs ++ [x])[q]? = some y → L[q]? = some r → y.term = (entOf M r).term ∧ y.sub = (entOf M r).sub ∧ y.s2.v = TV r ∧ y.s3.v = SV r) := Lib.hid fun q y r hy hr => by
                    rcases Nat.lt_or_ge q xs.length with h | h
                    · rw [List.getElem?_append_left h] at hy
                      exact Hxs.out q y r hy hr
                    · have hlen := (List.getElem?_eq_some_iff.1 hy).1
                      simp at hlen
                      have hq : q = xs.length := by omega
                      rw [hq, List.getElem?_append_right (Nat.le_refl _)] at hy
                      rw [hq, Hxl.out] at hr
                      obtain rfl := Option.some.inj (Hp.out.symm.trans hr)
                      have hy' : y = x := by simpa using hy.symm
                      rw [hy', Hx.out]
                      exact ⟨rfl, rfl, Htv.out.symm, Hsv.out.symm⟩
                  clear hown5 hg5 hat5 hlt5 HB6 hx f0 f1 f2 f3
                  go_wp2_with fail
                  go_roundw
                  case rel => exact ⟨i + 1, own6, xs ++ [x], by go_num, by omega, HB5.out, by simp [Hxl.out], Hx5.out⟩
                  case measure => simp [intOf]; omega
                · obtain rfl : i = L.length := by omega
                  have hi1 : ¬ (L.length : Int) < L.length := by omega
                  obtain ⟨au, cu, rfl, _, _⟩ := HB.out.out.form
                  go_wp2_with fail
                  go_ret2
                  refine ⟨.inr ⟨ixOf M, _, Hok.out, rfl, ?_⟩, Ho1.out.trans HB.out.old⟩
                  rw [hixL.out]
                  refine ⟨xs, HB.out.out.recs, ⟨by rw [Hxl.out, List.length_map], fun q x e hx he => ?_⟩⟩
                  rw [List.getElem?_map, Option.map_eq_some_iff] at he
                  obtain ⟨p, hp, rfl⟩ := he
                  obtain ⟨k1, k2, k3, k4⟩ := Hxs.out q x p hx hp
                  have hE := (HB.out.gs.ent p (ixE M p) (if_pos (by rw [List.take_length]; exact List.mem_of_getElem? hp))).1
                  refine ⟨k1, k2, ?_, ?_⟩
                  · rw [k3]; exact hE.tops.ints
                  · rw [k4]; exact Txts.of_recs hE.sees.recs
            · intro key v w4 cnt2 hNx hen
              obtain ⟨p, kl, rfl, hkey, hLp, hFp, hrg2, hlt, hg2, hs2⟩ := hNx
              obtain ⟨hpM, hpD⟩ := hLp
              have ho4 := Ho.out.grown hg2 (fun j e => by have := Option.some.inj e; have := Hrr.out; omega)
              have hown4 : OwnS plcE 89 wI w4 u11 D := HO.out.kept hg2 (by
                by_cases h : u11.ownBlock = none
                · exact .inl h
                · refine .inr fun e => ?_
                  have := (World.ownsRow.lt HO.out rr e).1
                  have := Hrr.out
                  omega)
              have HR4 := Lib.hid hrg2
              have Ho4 := Lib.hid ho4
              have HO4 := Lib.hid hown4
              have hsz4 : wI.heap.size ≤ w4.heap.size := by omega
              have hDn : Hid ((D ++ [p]).Nodup) := Lib.hid (by
                rw [List.nodup_append]
                refine ⟨Hnd.out, by simp, ?_⟩
                intro x hx y hy e
                rw [List.mem_singleton] at hy
                subst hy; subst e
                exact hpD hx)
              have hDs : Hid (∀ q ∈ D ++ [p], q ∈ places M) := Lib.hid fun q hq => by
                rw [List.mem_append, List.mem_singleton] at hq
                rcases hq with hq | rfl
                · exact Hsub.out q hq
                · exact hpM
              have hLf : Hid ((fun z => (z ∈ places M ∧ z ∉ D) ∧ z ≠ p) = fun z => z ∈ places M ∧ z ∉ D ++ [p]) := Lib.hid (by
                funext z
                apply propext
                rw [List.mem_append, List.mem_singleton]
                constructor
                · rintro ⟨⟨h1, h2⟩, h3⟩
                  exact ⟨h1, fun h => h.elim h2 h3⟩
                · rintro ⟨h1, h2⟩
                  exact ⟨⟨h1, fun h => h2 (.inl h)⟩, fun h => h2 (.inr h)⟩)
              rw [hLf.out] at HR4
              obtain ⟨pt, ps⟩ := p
              rw [show plV (pt, ps) = .agg #[.string pt, .string ps] from rfl] at hen ⊢
              clear hkey hFp hrg2 hg2 hs2 hpM hpD ho4 hown4 hLf HO HMR Ho Hnd Hsub hsz
              go_wp2_with (at_builtin; go_loud (refine wpList_append_at (c := plcE) (w0 := wI) rfl _ _ 87 rfl 89 Tryz.underlying87 _ infoPl rfl (Nat.zero_lt_succ 1) _ D [(pt, ps)] rfl ((HO4.out.alloc _).alloc _) _ rfl (Recs.oneAt (c := plcE) _ 89 (pt, ps) (by simp [go_sem])) (Nat.zero_lt_succ 0) (by simp; omega) (by simp; omega) (by simp; omega) ?_); intro g5 cp5 w5 hown5 hg5 hat5 hlt5)
              have hul := fun g (e : u11.ownBlock = some g) => (World.ownsRow.lt HO4.out g e).1
              have hk5 := KeptX.of_grown (X := fun g => u11.ownBlock = some g) hg5 (fun g e => e)
              have hR5 := MapR.block (HR4.out.old (((Old.refl w4).alloc _).alloc _)) hk5 (fun e => by have := hul bo e; have := HG3.out.mo.lt; have := Hrr.out; omega) (fun e => by have := hul rr e; have := Hrr.out; omega)
              have hO5 := ((Ho4.out.alloc _).alloc _).grown hg5 (fun g e => by have := hul g e; have := Hrr.out; omega)
              have hs5 := hg5.size
              have hs5' : wI.heap.size ≤ w5.heap.size := by simp at hs5; omega
              have HR5 := Lib.hid hR5
              have HO5 := Lib.hid hO5
              have HW5 := Lib.hid hown5
              clear hul hk5 hR5 hO5 hs5 hown5 hg5 hat5 hlt5 HR4 Ho4 HO4
              go_roundg cnt2
              case measure => omega
              case rel => exact ⟨cnt2, D ++ [(pt, ps)], Nat.le_refl _, hDn.out, hDs.out, by have := HW5.out; simpa using this, HR5.out, HO5.out, hs5'⟩
end Go.Proofs.YtohngjkedhpikaaGreatDoor
