/-
  KeywordHeadings: headings split the entries; no letter twice: the walk.
-/
import Derived.Test.YtohngjkedhpikaaGreatDoorZKwHd
import Derived.Test.YtohngjkedhpikaaGreatDoorZLaid
import Derived.Test.YtohngjkedhpikaaGreatDoorZKwQ
import Derived.Test.YtohngjkedhpikaaGreatDoorZMapsV
namespace Go.Proofs.YtohngjkedhpikaaGreatDoor
open Go.RowKit Go.Maps
attribute [local go_sem] Old.refl Old.alloc Old.drew Old.setCell OldW.old

theorem toList_one (b : UInt8) : (⟨#[b]⟩ : ByteArray).toList = [b] := by
  rw [ByteArray.toList_eq]
/-- a letter's name -/
theorem letter_of {nm : ByteArray} (h1 : Go.Op.bytesLess nm.toList [65] = false) (h2 : (Go.Op.bytesLess nm.toList [90] || nm.toList == [90]) = true) (h3 : nm.size = 1) : ∃ b : UInt8, nm = ⟨#[b]⟩ ∧ 65 ≤ b.toNat ∧ b.toNat ≤ 90 := by
  obtain ⟨b, hb⟩ : ∃ b, nm = ⟨#[b]⟩ := by
    obtain ⟨⟨l⟩⟩ := nm
    match l, h3 with
    | [b], _ => exact ⟨b, rfl⟩
  subst hb
  rw [toList_one] at h1 h2
  refine ⟨b, rfl, ?_, ?_⟩
  · simp [Go.Op.bytesLess, UInt8.lt_iff_toNat_lt] at h1
    exact h1
  · simp [Go.Op.bytesLess, UInt8.lt_iff_toNat_lt] at h2
    rcases h2 with h | h
    · omega
    · subst h; decide
theorem grpS_size (s : ByteArray) : (grpS s).size ≤ 4 := by
  unfold grpS
  cases elsS s with
  | nil => decide
  | cons e t =>
    rw [groupE_cons]
    split
    · decide
    · split
      · decide
      · split
        · exact encode_size_le _
        · exact encode_size_le _
/-- what was seen of the first headings -/
def SeenF (H : List Hd) (F : ByteArray → Option Value) (i : Nat) : Prop :=
  (∀ q, ∃ c : Nat, (F q).getD (.int .i64 0) = .int .i64 c ∧ c ≤ i) ∧ ∀ q, (∀ (j : Nat) (h : Hd), j < i → H[j]? = some h → ¬ h.name = q) → F q = none
theorem SeenF.init (H : List Hd) : SeenF H (fun _ => none) 0 := ⟨fun _ => ⟨0, rfl, Nat.le_refl _⟩, fun _ _ => rfl⟩
theorem SeenF.next {H : List Hd} {F : ByteArray → Option Value} {i c : Nat} {x : Hd} (h : SeenF H F i) (hx : H[i]? = some x) (hc : c ≤ i) : SeenF H (fun q => if q = x.name then some (.int .i64 ((c + 1 : Nat) : Int)) else F q) (i + 1) := by
  refine ⟨fun q => ?_, fun q hq => ?_⟩
  · by_cases e : q = x.name
    · exact ⟨c + 1, by dsimp only; rw [if_pos e]; rfl, by omega⟩
    · obtain ⟨d, h1, h2⟩ := h.1 q
      exact ⟨d, by dsimp only; rw [if_neg e]; exact h1, by omega⟩
  · have e : ¬ q = x.name := fun e => hq i x (by omega) hx e.symm
    dsimp only
    rw [if_neg e]
    exact h.2 q fun j y hj hy => hq j y (by omega) hy
set_option maxRecDepth 100000 in
set_option maxHeartbeats 3200000 in
theorem keywordHeadings_row_walk (W : World) (hT : Tabs W) (S : List (List Tk)) (v : Value) (hv : Srk W v S) (hS : S.length ≤ 1048576) (hB : ∀ T ∈ S, T.length ≤ 1048576 ∧ ∀ t ∈ T, TkB t 1048576) :
    Calls Tryz.prog 5 #[v] W fun e w' => e = .returned (.bool true) ∧ Old W w' := by
  have HA := Lib.hid (awake_any W hT)
  have HN := Lib.hid (fun V (o : Old W V) => few_any v S V (hv.old o) (few_bound hS hB))
  by_cases hfw : totN S S.length ≤ 300 ∧ S.length ≤ 200
  · have hfd : (decide (totN S S.length ≤ 300) && decide (S.length ≤ 200)) = true := by simp [hfw]
    rw [hfd] at HN
    obtain ⟨hm1, hm2⟩ := few_facts hB
    have hM : (mns S S.length).length ≤ 1000 := by have := hfw.1; unfold totN at this; omega
    have HBd := Lib.hid (fun V (o : Old W V) => Build_any v S V (hv.old o) (hT.old o) hM (by have := hfw.1; unfold totN at this; omega) hm1 hm2)
    have Hsm := Lib.hid (ix_small hM hm1 hm2)
    have Hln : Hid ((ixOf (mns S S.length)).length ≤ 1000) := Lib.hid (by rw [ixOf_length]; exact Nat.le_trans (places_length _) hM)
    have HT := Lib.hid hT
    clear hfw hfd hm1 hm2 hM hT hv hB hS
    generalize mns S S.length = M at *
    have hmm := @run_makeMap Tryz.prog
    go_enter Tryz.func5, Tryz.ntmps5
    go_upto_region 6 with (first
      | (go_at_call 9; refine HA.out.mono ?_; rintro e w1 ⟨rfl, o1⟩)
      | (go_at_call 10; refine (HN.out _ o1).mono ?_; rintro e w2 ⟨rfl, o2⟩; have o12 := o1.trans o2)
      | (go_at_call 11; refine (HBd.out _ o12).mono ?_; rintro e w3 ⟨hR, o3⟩; have o13 := o12.trans o3; rcases hR.split with ⟨g, rfl⟩ | ⟨a, c, l, rfl, hc1, hc2, hEn, Hg, Hix⟩))
    · clear hR
      go_wp2_with fail
      go_ret
      exact ⟨rfl, o13⟩
    · clear hR HA HN HBd
      rw [← Hix.out] at Hsm Hln
      have HEn := Lib.hid hEn
      have HT3 := Lib.hid (HT.out.old o13)
      have hln := Hln.out
      have HHe := Lib.hid (Headings_any _ l w3 HEn.out HT3.out (by omega) (fun e he => ⟨(Hsm.out e he).1, (Hsm.out e he).2.2.1⟩))
      have Hok := Lib.hid (headK_ok grpS l l.length (Nat.le_refl _))
      have Hz := Lib.hid (headK_zero (g := grpS) (Nat.le_refl l.length))
      have Hse := Lib.hid (fun (i j : Nat) (x y : Hd) (hij : i < j) (hx : (headK grpS l l.length)[i]? = some x) (hy : (headK grpS l l.length)[j]? = some y) (hn : x.name = y.name) (b : UInt8) (h1 : 65 ≤ b.toNat) (h2 : b.toNat ≤ 90) => (show ¬ y.name = ⟨#[b]⟩ by rw [Hix.out] at hx hy; exact head_seen hij hx hy hn h1 h2))
      have hHl := headK_length grpS l l.length
      clear hEn HT
      generalize headK grpS l l.length = H at *
      go_upto_region 10 with (go_at_call 18; (with_reducible refine HHe.out.mono ?_); rintro e w4 ⟨⟨u, rfl, hw⟩, o4⟩; obtain ⟨ha, hc, rfl, hhc1, hhc2⟩ := hw.form)
      obtain ⟨mb, hmb⟩ : ∃ x, w4.heap.size = x := ⟨_, rfl⟩
      have hM0 : MapV Tryz.prog 9 Value.string (w4.alloc (.map #[] 0)) mb 0 (fun _ => none) := hmb ▸ MapV.made _ _ _ _
      have HM0 := Lib.hid hM0
      have HoA : Hid (Old w4 (w4.alloc (.map #[] 0))) := Lib.hid ((Old.refl _).alloc _)
      rw [hmb]
      have Hmb : Hid (w4.heap.size ≤ mb) := Lib.hid (Nat.le_of_eq hmb)
      clear hM0 hmb
      generalize w4.alloc (.map #[] 0) = wA at *
      have Hw := Lib.hid hw
      have O34 := Lib.hid o4
      have O04 := Lib.hid (o13.trans o4)
      obtain ⟨eb, eoff, hea, heat⟩ := Ents.open HEn.out
      have Hea := Lib.hid hea
      have Heat := Lib.hid heat
      clear hw o4 o1 o2 o12 o13 o3 hea heat HHe
      go_wp2_with fail
      go_loopw [27] (fun j wx => ∃ (i n : Nat) (F : ByteArray → Option Value), j = .int .i64 i ∧ i ≤ H.length ∧ n ≤ i ∧ MapV Tryz.prog 9 Value.string wx mb n F ∧ SeenF H F i ∧ Old w4 wx) (fun j _ => H.length - (intOf j).toNat)
      case atStart => exact ⟨0, 0, _, rfl, Nat.zero_le _, Nat.le_refl _, HM0.out, SeenF.init H, HoA.out⟩
      case round =>
        clear HM0 HoA hmm
        obtain ⟨i, n, F, rfl, hi, hni, hMp, hSF, ho⟩ := hrel
        have HMp := Lib.hid hMp
        have HSF := Lib.hid hSF
        clear hMp hSF
        by_cases hlt : i < H.length
        · have hi1 : (i : Int) < H.length := by omega
          obtain ⟨x, hx⟩ : ∃ x, H[i]? = some x := ⟨_, List.getElem?_eq_getElem hlt⟩
          obtain ⟨hbk, rfl, hbk1, hbk2⟩ := Hw.out.block (by omega)
          obtain ⟨ai, hai, hail⟩ := Hok.out.lo i x hx
          obtain rfl := Hea.out (by omega)
          have K0 := Lib.hid (later (show w4.cell? ⟨hbk, i * 2, none⟩ = some (.string x.name) from Hw.out.cell (j := 0) hx rfl))
          have k0 : ∀ V, Old wr V → V.cell? ⟨hbk, i * 2, none⟩ = some (.string x.name) := fun V o => K0.out V (ho.trans o)
          have K1 := Lib.hid (later (show w4.cell? ⟨hbk, i * 2 + 1, none⟩ = some (.int .i64 ai) from hai ▸ Hw.out.cell (j := 1) hx rfl))
          have k1 : ∀ V, Old wr V → V.cell? ⟨hbk, i * 2 + 1, none⟩ = some (.int .i64 ai) := fun V o => K1.out V (ho.trans o)
          have hen : ∃ en : Nat, ai < en ∧ en ≤ l.length ∧ (i + 1 < H.length → w4.cell? ⟨hbk, (i + 1) * 2 + 1, none⟩ = some (.int .i64 en)) ∧ (¬ i + 1 < H.length → en = l.length) ∧ ∀ (k : Nat) (e : En), ai ≤ k → k < en → l[k]? = some e → grpS (foldS e.term) = x.name := by
            by_cases hnx : i + 1 < H.length
            · obtain ⟨y, hy⟩ : ∃ y, H[i + 1]? = some y := ⟨_, List.getElem?_eq_getElem hnx⟩
              obtain ⟨en, hen, henl⟩ := Hok.out.lo (i + 1) y hy
              have hup := Hok.out.up i x y hx hy
              refine ⟨en, by omega, by omega, fun _ => hen ▸ Hw.out.cell (j := 1) hy rfl, fun h => absurd hnx h, fun k e h1 h2 he => Hok.out.in_ i x k e hx (by omega) (by omega) (fun z hz => ?_) he⟩
              rw [hy] at hz
              obtain rfl := Option.some.inj hz
              omega
            · refine ⟨l.length, by omega, Nat.le_refl _, fun h => absurd h hnx, fun _ => rfl, fun k e h1 h2 he => Hok.out.in_ i x k e hx (by omega) h2 (fun z hz => ?_) he⟩
              have := (List.getElem?_eq_some_iff.1 hz).1
              omega
          obtain ⟨en, he1, he2, he3, he4, he5⟩ := hen
          have He5 := Lib.hid he5
          clear he5
          by_cases hnx : i + 1 < H.length
          · have hnx1 : (i : Int) + 1 < H.length := by omega
            have k2 : ∀ V, Old wr V → V.cell? ⟨hbk, (i + 1) * 2 + 1, none⟩ = some (.int .i64 en) := fun V o => later (he3 hnx) V (ho.trans o)
            have hw1 : IntKind.i64.wrap ((i : Int) + 1) = (i : Int) + 1 := IntWalk.i64_in _ (by omega)
            have hnn : ((i : Int) + 1).toNat = i + 1 := by omega
            clear he3 he4
            go_upto_region 16 with fail
            go_cut [75] (fun u wy => u = .bool false ∧ wr = wy)
            case first =>
              have ca0 : decide ((ai : Int) < 0) = false := by rw [decide_eq_false_iff_not]; omega
              have ca1 : decide (en ≤ ai) = false := by rw [decide_eq_false_iff_not]; omega
              have ca2 : decide (l.length < en) = false := by rw [decide_eq_false_iff_not]; omega
              by_cases hi0 : i = 0
              · have hz0 : ai = 0 := by
                  have := Hok.out.at0 x (by rw [← hi0]; exact hx)
                  omega
                have ca3 : ((i : Int) == 0) = true := by rw [hi0]; rfl
                have ca4 : ((ai : Int) != 0) = false := by rw [hz0]; rfl
                clear HSF HMp Hok Hse hi0 hz0
                go_wp2_with fail
                go_meet
                exact ⟨rfl, rfl⟩
              · have ca3 : ((i : Int) == 0) = false := by rw [beq_eq_false_iff_ne]; omega
                clear HSF HMp Hok Hse hi0
                go_wp2_with fail
                go_meet
                exact ⟨rfl, rfl⟩
            case rest =>
              obtain ⟨rfl, rfl⟩ := hcut
              obtain ⟨cn, hcn, hcni⟩ := HSF.out.1 x.name
              have hkey : keyOf Tryz.prog 9 (Value.string x.name) = some (.string x.name.data.toList) := keyK (by
                rw [← He5.out ai _ (Nat.le_refl _) he1 (List.getElem?_eq_getElem hail)]
                have := grpS_size (foldS l[ai].term)
                omega)
              have Hnone : Hid (Go.Op.bytesLess x.name.toList [65] = false → (Go.Op.bytesLess x.name.toList [90] || x.name.toList == [90]) = true → x.name.size = 1 → F x.name = none) := Lib.hid fun h1 h2 h3 => HSF.out.2 _ fun j h hj hh e => by
                obtain ⟨b, hb, hb1, hb2⟩ := letter_of h1 h2 h3
                exact Hse.out j i h x hj hh hx e b hb1 hb2 hb
              have Hlook : Hid (F x.name = none → ∀ V, Old wr V → (Instr.lookup 54 (.map (some mb)) (.string x.name) false).run Tryz.prog V = .ok (.int .i64 0) V) := Lib.hid fun h V o => by
                have := (HMp.out.old o).look (kv := Value.string) (string_keyed Tryz.underlying9) Tryz.underlying54 zeroIntK hkey
                rw [h] at this
                exact this
              have Hkey := Lib.hid hkey
              clear hkey
              go_upto_region 18 with fail
              go_cut [108] (fun u wy => u = .bool false ∧ wr = wy)
              case first =>
                have hA : (⟨#[65]⟩ : ByteArray).toList = [65] := toList_one 65
                have hZ : (⟨#[90]⟩ : ByteArray).toList = [90] := toList_one 90
                clear HMp HSF Hok Hse Hkey hcn
                cases hq1 : Go.Op.bytesLess x.name.toList [65] with
                | true =>
                  have hq1' : Go.Op.bytesLess x.name.toList (⟨#[65]⟩ : ByteArray).toList = true := by rw [hA]; exact hq1
                  clear Hlook Hnone
                  go_wp2_with fail
                  go_meet
                  exact ⟨rfl, rfl⟩
                | false =>
                  have hq1' : Go.Op.bytesLess x.name.toList (⟨#[65]⟩ : ByteArray).toList = false := by rw [hA]; exact hq1
                  cases hq2 : Go.Op.bytesLess x.name.toList [90] with
                  | true =>
                    have hq2' : Go.Op.bytesLess x.name.toList (⟨#[90]⟩ : ByteArray).toList = true := by rw [hZ]; exact hq2
                    by_cases hs1 : x.name.size = 1
                    · have hlk := Hlook.out (Hnone.out hq1 (by rw [hq2]; rfl) hs1)
                      have hs2 : ((x.name.size : Int) == 1) = true := by rw [hs1]; rfl
                      clear Hlook Hnone
                      go_wp2_with fail
                      go_meet
                      exact ⟨rfl, rfl⟩
                    · have hs2 : ((x.name.size : Int) == 1) = false := by rw [beq_eq_false_iff_ne]; omega
                      clear Hlook Hnone
                      go_wp2_with fail
                      go_meet
                      exact ⟨rfl, rfl⟩
                  | false =>
                    have hq2' : Go.Op.bytesLess x.name.toList (⟨#[90]⟩ : ByteArray).toList = false := by rw [hZ]; exact hq2
                    cases hq3 : (x.name.toList == [90]) with
                    | true =>
                      have hq3' : (x.name.toList == (⟨#[90]⟩ : ByteArray).toList) = true := by rw [hZ]; exact hq3
                      by_cases hs1 : x.name.size = 1
                      · have hlk := Hlook.out (Hnone.out hq1 (by rw [hq2, hq3]; rfl) hs1)
                        have hs2 : ((x.name.size : Int) == 1) = true := by rw [hs1]; rfl
                        clear Hlook Hnone
                        go_wp2_with fail
                        go_meet
                        exact ⟨rfl, rfl⟩
                      · have hs2 : ((x.name.size : Int) == 1) = false := by rw [beq_eq_false_iff_ne]; omega
                        clear Hlook Hnone
                        go_wp2_with fail
                        go_meet
                        exact ⟨rfl, rfl⟩
                    | false =>
                      have hq3' : (x.name.toList == (⟨#[90]⟩ : ByteArray).toList) = false := by rw [hZ]; exact hq3
                      clear Hlook Hnone
                      go_wp2_with fail
                      go_meet
                      exact ⟨rfl, rfl⟩
              case rest =>
                obtain ⟨rfl, rfl⟩ := hcut
                have hwc : IntKind.i64.wrap ((cn : Int) + 1) = (cn : Int) + 1 := IntWalk.i64_in _ (by omega)
                clear Hlook Hnone Hse
                go_upto_region 21 with (first
                  | (refine wpList_lookup_mv rfl _ _ _ rfl 9 3 (string_keyed Tryz.underlying9) Value.string Tryz.underlying54 (.int .i64 0) zeroIntK mb _ _ rfl HMp.out x.name _ rfl Hkey.out _ rfl ?_; rw [hcn])
                  | (refine wpList_update_mv rfl _ _ _ _ rfl 9 3 (string_keyed Tryz.underlying9) Value.string (fun _ _ => str_kv) Tryz.underlying54 mb _ F rfl HMp.out (by omega) x.name _ rfl Hkey.out (.int .i64 ((cn : Int) + 1)) rfl ?_; intro w6 hM6 hg6))
                have ho6 : Old w4 w6 := ho.grown hg6 (fun g e => by have := Option.some.inj e; have := Hmb.out; omega)
                have HM6 := Lib.hid hM6
                have HSF6 : Hid (SeenF H (fun q => if q = x.name then some (.int .i64 ((cn : Int) + 1)) else F q) (i + 1)) := Lib.hid (HSF.out.next hx hcni)
                have k0' := fun V (o : Old w6 V) => K0.out V (ho6.trans o)
                have k1' := fun V (o : Old w6 V) => K1.out V (ho6.trans o)
                have Ho6 := Lib.hid ho6
                clear k0 k1 hM6 hg6 ho HMp HSF
                go_wp2_with fail
                go_loopw [9] (fun u wx => ∃ k : Nat, u = .int .i64 k ∧ ai ≤ k ∧ k ≤ en ∧ Old w6 wx) (fun u _ => en - (intOf u).toNat)
                case atStart => exact ⟨ai, rfl, Nat.le_refl _, by omega, Old.refl _⟩
                case round =>
                  clear k0' k1' ho6
                  obtain ⟨k, rfl, hka, hke, hok⟩ := hrel
                  by_cases hlt2 : k < en
                  · have hi2 : (k : Int) < en := by omega
                    have hkl : (k : Int) < l.length := by omega
                    obtain ⟨e, he⟩ : ∃ e, l[k]? = some e := ⟨_, List.getElem?_eq_getElem (by omega)⟩
                    have hgr := He5.out k e hka hlt2 he
                    have hs1 := (Hsm.out e (List.mem_of_getElem? he)).1
                    have hs2 := (Hsm.out e (List.mem_of_getElem? he)).2.2.1
                    obtain ⟨a2, c2, a3, c3, hcs, _, _⟩ := Heat.out k e he
                    have c0 : ∀ V, Old wr V → V.cell? ⟨eb, eoff + k * 4, none⟩ = some (.string e.term) := fun V o => (hcs V ((O34.out.trans Ho6.out).trans (hok.trans o))).1
                    have c1 : ∀ V, Old wr V → V.cell? ⟨eb, eoff + k * 4 + 1, none⟩ = some (.string e.sub) := fun V o => (hcs V ((O34.out.trans Ho6.out).trans (hok.trans o))).2.1
                    have c2' : ∀ V, Old wr V → V.cell? ⟨eb, eoff + k * 4 + 2, none⟩ = some (.slice a2 e.topics.length c2) := fun V o => (hcs V ((O34.out.trans Ho6.out).trans (hok.trans o))).2.2.1
                    have c3' : ∀ V, Old wr V → V.cell? ⟨eb, eoff + k * 4 + 3, none⟩ = some (.slice a3 e.sees.length c3) := fun V o => (hcs V ((O34.out.trans Ho6.out).trans (hok.trans o))).2.2.2
                    have n0 : ∀ V, Old wr V → V.cell? ⟨hbk, i * 2, none⟩ = some (.string x.name) := fun V o => K0.out V (Ho6.out.trans (hok.trans o))
                    have HG := Lib.hid (fun (V : OldW wr) => RGrp_any e.term e.sub (.slice a2 e.topics.length c2) (.slice a3 e.sees.length c3) V.w' hs1 hs2)
                    rw [hgr] at HG
                    have hbb : (x.name.toList == x.name.toList) = true := by simp
                    have hbb' : (x.name.toList != x.name.toList) = false := by simp
                    clear hgr hs1 hs2 hcs he hcn
                    go_upto_region 24 with fail
                    refine wp_region_old (Old.refl wr) (by kernel_rfl) (by kernel_rfl) ?_
                    repeat (go_big_quiet_step (first | with_reducible exact Calls.in_old (HG.out _) | fail))
                    refine wpQuiet_nil ?_
                    rintro ⟨wq, hq⟩
                    dsimp only
                    have hoq := hok.trans hq
                    clear c0 c1 c2' c3' n0 HG hok
                    go_wp2_with fail
                    go_roundw
                    case rel => exact ⟨k + 1, by go_num, by omega, by omega, hoq⟩
                    case measure => simp [intOf]; omega
                  · have hi2 : ¬ (k : Int) < (en : Nat) := by omega
                    go_wp2_with fail
                    go_roundw
                    case rel => exact ⟨i + 1, n + 1, _, by go_num, by omega, by omega, HM6.out.old hok, HSF6.out, Ho6.out.trans hok⟩
                    case measure => simp [intOf]; omega
          · have hnx1 : ¬ (i : Int) + 1 < H.length := by omega
            have hw1 : IntKind.i64.wrap ((i : Int) + 1) = (i : Int) + 1 := IntWalk.i64_in _ (by omega)
            obtain rfl := he4 hnx
            clear he3 he4
            go_upto_region 16 with fail
            go_cut [75] (fun u wy => u = .bool false ∧ wr = wy)
            case first =>
              have ca0 : decide ((ai : Int) < 0) = false := by rw [decide_eq_false_iff_not]; omega
              have ca1 : decide (l.length ≤ ai) = false := by rw [decide_eq_false_iff_not]; omega
              have ca2 : decide (l.length < l.length) = false := by rw [decide_eq_false_iff_not]; omega
              by_cases hi0 : i = 0
              · have hz0 : ai = 0 := by
                  have := Hok.out.at0 x (by rw [← hi0]; exact hx)
                  omega
                have ca3 : ((i : Int) == 0) = true := by rw [hi0]; rfl
                have ca4 : ((ai : Int) != 0) = false := by rw [hz0]; rfl
                clear HSF HMp Hok Hse hi0 hz0
                go_wp2_with fail
                go_meet
                exact ⟨rfl, rfl⟩
              · have ca3 : ((i : Int) == 0) = false := by rw [beq_eq_false_iff_ne]; omega
                clear HSF HMp Hok Hse hi0
                go_wp2_with fail
                go_meet
                exact ⟨rfl, rfl⟩
            case rest =>
              obtain ⟨rfl, rfl⟩ := hcut
              obtain ⟨cn, hcn, hcni⟩ := HSF.out.1 x.name
              have hkey : keyOf Tryz.prog 9 (Value.string x.name) = some (.string x.name.data.toList) := keyK (by
                rw [← He5.out ai _ (Nat.le_refl _) he1 (List.getElem?_eq_getElem hail)]
                have := grpS_size (foldS l[ai].term)
                omega)
              have Hnone : Hid (Go.Op.bytesLess x.name.toList [65] = false → (Go.Op.bytesLess x.name.toList [90] || x.name.toList == [90]) = true → x.name.size = 1 → F x.name = none) := Lib.hid fun h1 h2 h3 => HSF.out.2 _ fun j h hj hh e => by
                obtain ⟨b, hb, hb1, hb2⟩ := letter_of h1 h2 h3
                exact Hse.out j i h x hj hh hx e b hb1 hb2 hb
              have Hlook : Hid (F x.name = none → ∀ V, Old wr V → (Instr.lookup 54 (.map (some mb)) (.string x.name) false).run Tryz.prog V = .ok (.int .i64 0) V) := Lib.hid fun h V o => by
                have := (HMp.out.old o).look (kv := Value.string) (string_keyed Tryz.underlying9) Tryz.underlying54 zeroIntK hkey
                rw [h] at this
                exact this
              have Hkey := Lib.hid hkey
              clear hkey
              go_upto_region 18 with fail
              go_cut [108] (fun u wy => u = .bool false ∧ wr = wy)
              case first =>
                have hA : (⟨#[65]⟩ : ByteArray).toList = [65] := toList_one 65
                have hZ : (⟨#[90]⟩ : ByteArray).toList = [90] := toList_one 90
                clear HMp HSF Hok Hse Hkey hcn
                cases hq1 : Go.Op.bytesLess x.name.toList [65] with
                | true =>
                  have hq1' : Go.Op.bytesLess x.name.toList (⟨#[65]⟩ : ByteArray).toList = true := by rw [hA]; exact hq1
                  clear Hlook Hnone
                  go_wp2_with fail
                  go_meet
                  exact ⟨rfl, rfl⟩
                | false =>
                  have hq1' : Go.Op.bytesLess x.name.toList (⟨#[65]⟩ : ByteArray).toList = false := by rw [hA]; exact hq1
                  cases hq2 : Go.Op.bytesLess x.name.toList [90] with
                  | true =>
                    have hq2' : Go.Op.bytesLess x.name.toList (⟨#[90]⟩ : ByteArray).toList = true := by rw [hZ]; exact hq2
                    by_cases hs1 : x.name.size = 1
                    · have hlk := Hlook.out (Hnone.out hq1 (by rw [hq2]; rfl) hs1)
                      have hs2 : ((x.name.size : Int) == 1) = true := by rw [hs1]; rfl
                      clear Hlook Hnone
                      go_wp2_with fail
                      go_meet
                      exact ⟨rfl, rfl⟩
                    · have hs2 : ((x.name.size : Int) == 1) = false := by rw [beq_eq_false_iff_ne]; omega
                      clear Hlook Hnone
                      go_wp2_with fail
                      go_meet
                      exact ⟨rfl, rfl⟩
                  | false =>
                    have hq2' : Go.Op.bytesLess x.name.toList (⟨#[90]⟩ : ByteArray).toList = false := by rw [hZ]; exact hq2
                    cases hq3 : (x.name.toList == [90]) with
                    | true =>
                      have hq3' : (x.name.toList == (⟨#[90]⟩ : ByteArray).toList) = true := by rw [hZ]; exact hq3
                      by_cases hs1 : x.name.size = 1
                      · have hlk := Hlook.out (Hnone.out hq1 (by rw [hq2, hq3]; rfl) hs1)
                        have hs2 : ((x.name.size : Int) == 1) = true := by rw [hs1]; rfl
                        clear Hlook Hnone
                        go_wp2_with fail
                        go_meet
                        exact ⟨rfl, rfl⟩
                      · have hs2 : ((x.name.size : Int) == 1) = false := by rw [beq_eq_false_iff_ne]; omega
                        clear Hlook Hnone
                        go_wp2_with fail
                        go_meet
                        exact ⟨rfl, rfl⟩
                    | false =>
                      have hq3' : (x.name.toList == (⟨#[90]⟩ : ByteArray).toList) = false := by rw [hZ]; exact hq3
                      clear Hlook Hnone
                      go_wp2_with fail
                      go_meet
                      exact ⟨rfl, rfl⟩
              case rest =>
                obtain ⟨rfl, rfl⟩ := hcut
                have hwc : IntKind.i64.wrap ((cn : Int) + 1) = (cn : Int) + 1 := IntWalk.i64_in _ (by omega)
                clear Hlook Hnone Hse
                go_upto_region 21 with (first
                  | (refine wpList_lookup_mv rfl _ _ _ rfl 9 3 (string_keyed Tryz.underlying9) Value.string Tryz.underlying54 (.int .i64 0) zeroIntK mb _ _ rfl HMp.out x.name _ rfl Hkey.out _ rfl ?_; rw [hcn])
                  | (refine wpList_update_mv rfl _ _ _ _ rfl 9 3 (string_keyed Tryz.underlying9) Value.string (fun _ _ => str_kv) Tryz.underlying54 mb _ F rfl HMp.out (by omega) x.name _ rfl Hkey.out (.int .i64 ((cn : Int) + 1)) rfl ?_; intro w6 hM6 hg6))
                have ho6 : Old w4 w6 := ho.grown hg6 (fun g e => by have := Option.some.inj e; have := Hmb.out; omega)
                have HM6 := Lib.hid hM6
                have HSF6 : Hid (SeenF H (fun q => if q = x.name then some (.int .i64 ((cn : Int) + 1)) else F q) (i + 1)) := Lib.hid (HSF.out.next hx hcni)
                have k0' := fun V (o : Old w6 V) => K0.out V (ho6.trans o)
                have k1' := fun V (o : Old w6 V) => K1.out V (ho6.trans o)
                have Ho6 := Lib.hid ho6
                clear k0 k1 hM6 hg6 ho HMp HSF
                go_wp2_with fail
                go_loopw [9] (fun u wx => ∃ k : Nat, u = .int .i64 k ∧ ai ≤ k ∧ k ≤ l.length ∧ Old w6 wx) (fun u _ => l.length - (intOf u).toNat)
                case atStart => exact ⟨ai, rfl, Nat.le_refl _, by omega, Old.refl _⟩
                case round =>
                  clear k0' k1' ho6
                  obtain ⟨k, rfl, hka, hke, hok⟩ := hrel
                  by_cases hlt2 : k < l.length
                  · have hi2 : (k : Int) < l.length := by omega
                    have hkl : (k : Int) < l.length := by omega
                    obtain ⟨e, he⟩ : ∃ e, l[k]? = some e := ⟨_, List.getElem?_eq_getElem (by omega)⟩
                    have hgr := He5.out k e hka hlt2 he
                    have hs1 := (Hsm.out e (List.mem_of_getElem? he)).1
                    have hs2 := (Hsm.out e (List.mem_of_getElem? he)).2.2.1
                    obtain ⟨a2, c2, a3, c3, hcs, _, _⟩ := Heat.out k e he
                    have c0 : ∀ V, Old wr V → V.cell? ⟨eb, eoff + k * 4, none⟩ = some (.string e.term) := fun V o => (hcs V ((O34.out.trans Ho6.out).trans (hok.trans o))).1
                    have c1 : ∀ V, Old wr V → V.cell? ⟨eb, eoff + k * 4 + 1, none⟩ = some (.string e.sub) := fun V o => (hcs V ((O34.out.trans Ho6.out).trans (hok.trans o))).2.1
                    have c2' : ∀ V, Old wr V → V.cell? ⟨eb, eoff + k * 4 + 2, none⟩ = some (.slice a2 e.topics.length c2) := fun V o => (hcs V ((O34.out.trans Ho6.out).trans (hok.trans o))).2.2.1
                    have c3' : ∀ V, Old wr V → V.cell? ⟨eb, eoff + k * 4 + 3, none⟩ = some (.slice a3 e.sees.length c3) := fun V o => (hcs V ((O34.out.trans Ho6.out).trans (hok.trans o))).2.2.2
                    have n0 : ∀ V, Old wr V → V.cell? ⟨hbk, i * 2, none⟩ = some (.string x.name) := fun V o => K0.out V (Ho6.out.trans (hok.trans o))
                    have HG := Lib.hid (fun (V : OldW wr) => RGrp_any e.term e.sub (.slice a2 e.topics.length c2) (.slice a3 e.sees.length c3) V.w' hs1 hs2)
                    rw [hgr] at HG
                    have hbb : (x.name.toList == x.name.toList) = true := by simp
                    have hbb' : (x.name.toList != x.name.toList) = false := by simp
                    clear hgr hs1 hs2 hcs he hcn
                    go_upto_region 24 with fail
                    refine wp_region_old (Old.refl wr) (by kernel_rfl) (by kernel_rfl) ?_
                    repeat (go_big_quiet_step (first | with_reducible exact Calls.in_old (HG.out _) | fail))
                    refine wpQuiet_nil ?_
                    rintro ⟨wq, hq⟩
                    dsimp only
                    have hoq := hok.trans hq
                    clear c0 c1 c2' c3' n0 HG hok
                    go_wp2_with fail
                    go_roundw
                    case rel => exact ⟨k + 1, by go_num, by omega, by omega, hoq⟩
                    case measure => simp [intOf]; omega
                  · have hi2 : ¬ (k : Int) < (l.length : Nat) := by omega
                    go_wp2_with fail
                    go_roundw
                    case rel => exact ⟨i + 1, n + 1, _, by go_num, by omega, by omega, HM6.out.old hok, HSF6.out, Ho6.out.trans hok⟩
                    case measure => simp [intOf]; omega
        · obtain rfl : i = H.length := by omega
          have hi1 : ¬ (H.length : Int) < H.length := by omega
          have hoE := O04.out.trans ho
          by_cases hH0 : H.length = 0
          · have hl0 : l.length = 0 := Hz.out.1 (List.length_eq_zero_iff.1 hH0)
            have hq1 : ((H.length : Int) == 0) = true := by rw [hH0]; rfl
            have hq2 : ((l.length : Int) == 0) = true := by rw [hl0]; rfl
            clear hH0 hl0 Hse Hok HSF HMp
            go_wp2_with fail
            go_ret
            exact ⟨rfl, hoE⟩
          · have hl0 : ¬ l.length = 0 := fun h => hH0 (by rw [Hz.out.2 h]; rfl)
            have hq1 : ((H.length : Int) == 0) = false := by rw [beq_eq_false_iff_ne]; omega
            have hq2 : ((l.length : Int) == 0) = false := by rw [beq_eq_false_iff_ne]; omega
            clear hH0 hl0 Hse Hok HSF HMp
            go_wp2_with fail
            go_ret
            exact ⟨rfl, hoE⟩
  · have hfd : (decide (totN S S.length ≤ 300) && decide (S.length ≤ 200)) = false := by
      rw [← Bool.not_eq_true]
      intro h
      rw [Bool.and_eq_true, decide_eq_true_eq, decide_eq_true_eq] at h
      exact hfw h
    rw [hfd] at HN
    clear hfd hfw hv hT hB hS
    go_enter Tryz.func5, Tryz.ntmps5
    go_wp2_with (first
      | (go_at_call 9; refine HA.out.mono ?_; rintro e w1 ⟨rfl, o1⟩)
      | (go_at_call 10; refine (HN.out _ o1).mono ?_; rintro e w2 ⟨rfl, o2⟩; have o12 := o1.trans o2))
    go_ret
    exact ⟨rfl, o12⟩
end Go.Proofs.YtohngjkedhpikaaGreatDoor
