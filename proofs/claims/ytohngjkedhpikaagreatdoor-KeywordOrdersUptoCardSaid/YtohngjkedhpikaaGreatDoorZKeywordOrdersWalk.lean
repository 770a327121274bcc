/-
  KeywordOrders: the sources the other way round lead to the same entries, the topics' numbers exchanged: the walk.
-/
import Derived.Test.YtohngjkedhpikaaGreatDoorZKwOa
import Derived.Test.YtohngjkedhpikaaGreatDoorZLaid
import Derived.Test.YtohngjkedhpikaaGreatDoorZKwQT
import Derived.Test.YtohngjkedhpikaaGreatDoorZKwRr
import Derived.BigQuiet
namespace Go.Proofs.YtohngjkedhpikaaGreatDoor
open Go.RowKit Go.Maps
attribute [local go_sem] Old.refl Old.alloc Old.drew Old.setCell OldW.old

def firstL (S : List (List Tk)) (i : Nat) : List Int := (List.range i).map fun k => ((totK S k : Nat) : Int)
theorem firstL_succ (S : List (List Tk)) (i : Nat) : firstL S (i + 1) = firstL S i ++ [((totK S i : Nat) : Int)] := by unfold firstL; rw [List.range_succ, List.map_append]; rfl
theorem firstL_length (S : List (List Tk)) (i : Nat) : (firstL S i).length = i := by unfold firstL; rw [List.length_map, List.length_range]
theorem firstL_ix (S : List (List Tk)) {k i : Nat} (h : k < i) : ix (firstL S i) k = ((totK S k : Nat) : Int) := by
  unfold ix firstL
  rw [List.getD_eq_getElem?_getD, List.getElem?_map, List.getElem?_range h]
  rfl
theorem infoSrO : (Tryz.prog.info? 33).map (fun i => (i.zero, i.size, i.bytes)) = some (some (.agg #[.slice none 0 0, .slice none 0 0]), 2, 48) := by kernel_rfl
theorem RetB.parts {w' : World} {ns nt : Nat} {M : List Mn} {e : Ending} (h : RetB w' ns nt M e) : ∃ u v, e = .returned (.tuple #[u, v]) ∧
    ((∃ f g, buildK ns nt M = .error f ∧ v = .iface 169 (.pointer (some ⟨g, 0, none⟩))) ∨ (∃ l, buildK ns nt M = .ok l ∧ v = .nilIface ∧ Ents w' u l)) := by
  rcases h with ⟨f, v, h1, rfl, g, rfl, _⟩ | ⟨l, u, h1, rfl, h2⟩
  · exact ⟨_, _, rfl, .inl ⟨f, g, h1, rfl⟩⟩
  · exact ⟨_, _, rfl, .inr ⟨l, h1, rfl, h2⟩⟩
theorem Both.reverse {α β : Type} {R : β → α → Prop} {t : List β} {l : List α} (h : Both R t l) : Both R t.reverse l.reverse := by
  refine ⟨by rw [List.length_reverse, List.length_reverse, h.1], fun i x y hx hy => ?_⟩
  have h1 := (List.getElem?_eq_some_iff.1 hx).1
  rw [List.length_reverse] at h1
  have h2 := h.1
  rw [List.getElem?_reverse (by omega)] at hx hy
  rw [← h2] at hy
  exact h.2 _ x y hx hy
theorem take_rev {α : Type} {t : List α} {i : Nat} {x : α} (h : t[i]? = some x) : (t.take (i + 1)).reverse = [x] ++ (t.take i).reverse := by
  rw [List.take_add_one, h, List.reverse_append]; rfl
/-- the back's facts -/
theorem back_facts {S : List (List Tk)} (hM : (mns S S.length).length ≤ 1000) (ht : totK S S.length ≤ 1000)
    (h1 : ∀ m ∈ mns S S.length, m.term.size ≤ 4194304 ∧ m.sub.size ≤ 4194304 ∧ m.aim.size ≤ 4194304) (h2 : ∀ m ∈ mns S S.length, (foldS m.term).size ≤ 4194304 ∧ (foldS m.sub).size ≤ 4194304 ∧ (foldS m.aim).size ≤ 4194304) :
    (mns S.reverse S.reverse.length).length ≤ 1000 ∧ totK S.reverse S.reverse.length ≤ 1000 ∧ (∀ m ∈ mns S.reverse S.reverse.length, m.term.size ≤ 4194304 ∧ m.sub.size ≤ 4194304 ∧ m.aim.size ≤ 4194304) ∧
      ∀ m ∈ mns S.reverse S.reverse.length, (foldS m.term).size ≤ 4194304 ∧ (foldS m.sub).size ≤ 4194304 ∧ (foldS m.aim).size ≤ 4194304 := by
  obtain ⟨e1, e2⟩ := rev_facts S
  refine ⟨by rw [e1]; exact hM, by rw [e2]; exact ht, fun m hm => ?_, fun m hm => ?_⟩
  · obtain ⟨m', hm', e⟩ := mns_rev_sub S m hm
    rw [← bare_term e, ← bare_sub e, ← bare_aim e]
    exact h1 m' hm'
  · obtain ⟨m', hm', e⟩ := mns_rev_sub S m hm
    rw [← bare_term e, ← bare_sub e, ← bare_aim e]
    exact h2 m' hm'
/-- what the loop that turns the sources round keeps -/
structure BackS (w wx : World) (bv fv : Value) (t : List (Sl × Sl)) (F : List Int) : Prop where
  old : Old w wx
  back : OwnS srE 33 w wx bv t
  first : OwnS intE 3 w wx fv F
  ap : ∀ g, bv.ownBlock = some g → fv.ownBlock ≠ some g
theorem BackS.nil (w : World) : BackS w w (.slice none 0 0) (.slice none 0 0) [] [] := ⟨Old.refl w, OwnS.nil _ _ _ _, OwnS.nil _ _ _ _, fun g e => by simp [Value.ownBlock] at e⟩
theorem BackS.after {w wx W : World} {bv fv : Value} {t : List (Sl × Sl)} {F : List Int} (h : BackS w wx bv fv t F) (o : Old wx W) : BackS w W bv fv t F := ⟨h.old.trans o, h.back.old o, h.first.old o, h.ap⟩
theorem BackS.putB {w wx W : World} {bv fv v' : Value} {t t' : List (Sl × Sl)} {F : List Int} (h : BackS w wx bv fv t F) (o : Old wx W) (hown : OwnS srE 33 wx W v' t') : BackS w W v' fv t' F :=
  ⟨h.old.trans o, hown.lower h.old.size, h.first.old o, fun g e k => by
    have h1 := (World.ownsRow.lt hown g e).1
    have h2 := (World.ownsRow.lt h.first g k).2
    omega⟩
theorem BackS.putF {w wx W Z : World} {bv fv : Value} {t : List (Sl × Sl)} {F F' : List Int} (h : BackS w wx bv fv t F) (oZ : Old wx Z) (hg : Z.grownBy W fv.ownBlock) {g m cap : Nat} (hown : OwnS intE 3 w W (.slice (some ⟨g, 0, none⟩) m cap) F') (hat : fv.ownBlock = some g ∨ g = Z.heap.size) :
    BackS w W bv (.slice (some ⟨g, 0, none⟩) m cap) t F' := by
  have hZ := h.after oZ
  refine ⟨hZ.old.grown hg fun k e => (World.ownsRow.lt h.first k e).1, hZ.back.kept hg ?_, hown, fun j hj e => ?_⟩
  · cases hb : bv.ownBlock with
    | none => exact .inl rfl
    | some j => exact .inr fun e => h.ap j hb e.symm
  · obtain rfl : g = j := Option.some.inj e
    rcases hat with h1 | h1
    · exact h.ap g hj h1
    · have := (World.ownsRow.lt hZ.back g hj).2; omega
theorem oneAtI (w : World) (n : Int) : Recs intE (w.alloc (.cells #[.int .i64 n] 3)) (.slice (some ⟨w.heap.size, 0, none⟩) 1 1) [n] := Recs.oneAt (c := intE) w 3 n rfl
theorem grown_cell {w W : World} {row : Option Nat} (hg : w.grownBy W row) {p : Addr} {v : Value} (hc : w.cell? p = some v) (hr : ∀ j, row = some j → j ≠ p.block) : W.cell? p = some v :=
  (KeptX.of_grown (X := fun j => row = some j) hg fun _ e => e).cell2 hc fun e => hr _ e rfl
set_option maxRecDepth 100000 in
set_option maxHeartbeats 6400000 in
theorem keywordOrders_row_walk (W : World) (hT : Tabs W) (S : List (List Tk)) (v : Value) (hv : Srk W v S) (hS : S.length ≤ 1048576) (hB : ∀ T ∈ S, T.length ≤ 1048576 ∧ ∀ t ∈ T, TkB t 1048576) :
    Calls Tryz.prog 4 #[v] W fun e w' => e = .returned (.bool true) ∧ Old W w' := by
  obtain ⟨sa, scap, rfl, hsc1, hsc2⟩ := Seqs.form hv
  have HA := Lib.hid (awake_any W hT)
  have HN := Lib.hid (fun V (o : Old W V) => few_any _ S V (hv.old o) (few_bound hS hB))
  by_cases hfw : totN S S.length ≤ 300 ∧ S.length ≤ 200
  · have hfd : (decide (totN S S.length ≤ 300) && decide (S.length ≤ 200)) = true := by simp [hfw]
    rw [hfd] at HN
    obtain ⟨hm1, hm2⟩ := few_facts hB
    have hM : (mns S S.length).length ≤ 1000 := by have := hfw.1; unfold totN at this; omega
    have htk : totK S S.length ≤ 300 := by have := hfw.1; unfold totN at this; omega
    have hS200 := hfw.2
    have HAl := Lib.hid (fun V (o : Old W V) => alike_any _ S V (hv.old o) hM hm1 hm2)
    have HBd := Lib.hid (fun V (o : Old W V) => Build_any _ S V (hv.old o) (hT.old o) hM (by omega) hm1 hm2)
    have Hback := back_facts hM (by omega) hm1 hm2
    have HBr := Lib.hid (fun u V (o : Old W V) (hu : Srk V u S.reverse) => Build_any u S.reverse V hu (hT.old o) Hback.1 Hback.2.1 Hback.2.2.1 Hback.2.2.2)
    have Htl := Lib.hid (ix_tops_len hM)
    have Hlen := Lib.hid (ixOf_length (mns S S.length))
    have Hpl := Lib.hid (places_length (mns S S.length))
    have hv' := hv
    obtain ⟨t, hrec, hboth⟩ := hv'
    obtain ⟨b0, off0, hat⟩ : ∃ b off, (0 < S.length → sa = some ⟨b, off, none⟩) ∧ ∀ (i : Nat) (x : Sl × Sl), t[i]? = some x → ∀ V, Old W V → V.cell? ⟨b, off + i * 2, none⟩ = some x.1.v ∧ V.cell? ⟨b, off + i * 2 + 1, none⟩ = some x.2.v := by
      obtain ⟨a', cap', b', off', e, h1, h2, h3, h4⟩ := hrec
      obtain ⟨rfl, e2, _⟩ := Value.slice.inj e
      refine ⟨b', off', fun h => h3 (by omega), fun i x hx V o => ⟨?_, ?_⟩⟩
      · exact h4 (i * 2) _ (by have := Enc.all_at (c := srE) (j := 0) hx rfl; exact this) V o
      · exact h4 (i * 2 + 1) _ (by have := Enc.all_at (c := srE) (j := 1) hx rfl; exact this) V o
    have htl := hboth.1
    have Has := Lib.hid hat.1
    have Hats := Lib.hid hat.2
    have Hboth := Lib.hid hboth
    have Hsl : Hid (∀ (i : Nat) (T : List Tk), S[i]? = some T → ∃ a1 c1, ∀ V, Old W V → V.cell? ⟨b0, off0 + i * 2 + 1, none⟩ = some (.slice a1 T.length c1)) := Lib.hid fun i T hT => by
      obtain ⟨x, hx⟩ : ∃ x, t[i]? = some x := ⟨_, List.getElem?_eq_getElem (by have := (List.getElem?_eq_some_iff.1 hT).1; omega)⟩
      have hxT := hboth.2 i x T hx hT
      obtain ⟨⟨a0, n0, c0'⟩, ⟨a1, n1, c1'⟩⟩ := x
      have hn1 : n1 = T.length := by
        obtain ⟨a', c', e, _⟩ := Seqs.form (show Seqs trE TkR W (.slice a1 n1 c1') T from hxT)
        exact (Value.slice.inj e).2.1
      subst hn1
      exact ⟨a1, c1', fun V o => (hat.2 i _ hx V o).2⟩
    have Hsi := Lib.hid (fun (a : Nat) (T : List Tk) (h : S[a]? = some T) => totK_succ h)
    have Hmono := Lib.hid (fun (a b : Nat) (h : a ≤ b) => totK_mono S h)
    have H0 : Hid (totK S 0 = 0) := Lib.hid rfl
    clear hfw hfd hm1 hm2 hT hv hB hS hrec hboth hat Hback
    go_enter Tryz.func4, Tryz.ntmps4
    go_upto_region 3 with (go_at_call 9; refine HA.out.mono ?_; rintro e w1 ⟨rfl, o1⟩)
    go_cut [25] (fun u wy => ∃ b : Bool, u = .bool b ∧ (b = false → AlikeM (mns S S.length)) ∧ Old W wy)
    case first =>
      clear HBd HBr Hats Hboth
      go_wp2_with (first
        | (go_at_call 10; refine (HN.out _ o1).mono ?_; rintro e w2 ⟨rfl, o2⟩; have o12 := o1.trans o2)
        | (go_at_call 16; refine (HAl.out _ o12).mono ?_; rintro e w3 ⟨⟨b, rfl, hb⟩, o3⟩; have o13 := o12.trans o3; have Hb := Lib.hid hb; clear hb))
      go_meet
      exact ⟨_, rfl, fun h => Hb.out (by simpa using h), o13⟩
    case rest =>
      obtain ⟨wA, hwA⟩ : ∃ x, x = wc := ⟨wc, rfl⟩
      subst hwA
      obtain ⟨b, rfl, hb, oA⟩ := hcut
      clear HA HN HAl o1
      cases b with
      | true =>
        clear HBd HBr Hats Hboth hb
        go_wp2_with fail
        go_ret
        exact ⟨rfl, oA⟩
      | false =>
        have Hal := Lib.hid (hb rfl)
        clear hb
        have HB1 := Lib.hid (HBd.out wA oA)
        clear HBd
        go_upto_region 10 with (go_at_call 11; (with_reducible refine HB1.out.mono ?_); rintro e w3 ⟨hR, o3⟩; obtain ⟨u3, u4, rfl, hres⟩ := hR.parts; have Hres := Lib.hid hres; clear hR hres)
        have o03 := oA.trans o3
        have HB0 : Hid (BackS w3 w3 (.slice none 0 0) (.slice none 0 0) (t.take 0).reverse (firstL S 0)) := Lib.hid (BackS.nil w3)
        clear oA o3 HB1
        have htk0 := H0.out
        go_loopw [5, 6, 7, 33] (fun bv fv nv jv wx => ∃ i : Nat, jv = .int .i64 i ∧ i ≤ S.length ∧ nv = .int .i64 (totK S i : Nat) ∧ BackS w3 wx bv fv (t.take i).reverse (firstL S i)) (fun _ _ _ jv _ => S.length - (intOf jv).toNat)
        case atStart => exact ⟨0, rfl, Nat.zero_le _, by rw [htk0]; rfl, HB0.out⟩
        case round =>
          clear HB0
          obtain ⟨i, rfl, hi, rfl, hBS⟩ := hrel
          obtain ⟨bv, hbv⟩ : ∃ x, x = u5 := ⟨u5, rfl⟩
          obtain ⟨fv, hfv⟩ : ∃ x, x = u6 := ⟨u6, rfl⟩
          subst hbv
          subst hfv
          have HBS := Lib.hid hBS
          have hbl : (t.take i).reverse.length = i := by rw [List.length_reverse, List.length_take]; omega
          have hfl := firstL_length S i
          clear hBS
          by_cases hlt : i < S.length
          · have hi1 : (i : Int) < S.length := by omega
            obtain ⟨x, hx⟩ : ∃ x, t[i]? = some x := ⟨_, List.getElem?_eq_getElem (by omega)⟩
            obtain ⟨T, hTi⟩ : ∃ T, S[i]? = some T := ⟨_, List.getElem?_eq_getElem hlt⟩
            have hxT := Hboth.out.2 i x T hx hTi
            obtain ⟨⟨a0, n0, c0'⟩, ⟨a1, n1, c1'⟩⟩ := x
            have hn1 : n1 = T.length := by
              obtain ⟨a', c', e, _⟩ := Seqs.form (show Seqs trE TkR W (.slice a1 n1 c1') T from hxT)
              exact (Value.slice.inj e).2.1
            subst hn1
            have hsuc := Hsi.out i T hTi
            have hmon := Hmono.out (i + 1) S.length hlt
            obtain rfl := Has.out (by omega)
            have o0 := o03.trans HBS.out.old
            have c0 : ∀ V, Old wr V → V.cell? ⟨b0, off0 + i * 2, none⟩ = some (.slice a0 n0 c0') := fun V o => (Hats.out i _ hx V (o0.trans o)).1
            have c1 : ∀ V, Old wr V → V.cell? ⟨b0, off0 + i * 2 + 1, none⟩ = some (.slice a1 T.length c1') := fun V o => (Hats.out i _ hx V (o0.trans o)).2
            have Htr := Lib.hid (take_rev hx)
            have Hfs := Lib.hid (firstL_succ S i)
            have Hsuc := Lib.hid hsuc
            clear hx hTi hxT
            go_upto_region 12 with fail
            have oa : Old wr (wr.alloc (.cells #[.slice a0 n0 c0', .slice a1 T.length c1'] 33)) := (Old.refl wr).alloc _
            have d0 := later (show (wr.alloc (.cells #[.slice a0 n0 c0', .slice a1 T.length c1'] 33)).cell? ⟨wr.heap.size, 0, none⟩ = some (.slice a0 n0 c0') by simp [go_sem])
            have d1 := later (show (wr.alloc (.cells #[.slice a0 n0 c0', .slice a1 T.length c1'] 33)).cell? ⟨wr.heap.size, 1, none⟩ = some (.slice a1 T.length c1') by simp [go_sem])
            have hg9 : wr.heap.size < (wr.alloc (.cells #[.slice a0 n0 c0', .slice a1 T.length c1'] 33)).heap.size := by simp
            have HBA := Lib.hid (HBS.out.after oa)
            have hfb : ∀ j, fv.ownBlock = some j → j < wr.heap.size := fun j hj => (World.ownsRow.lt HBS.out.first j hj).2
            generalize hwA' : wr.alloc (.cells #[.slice a0 n0 c0', .slice a1 T.length c1'] 33) = wA1 at *
            generalize wr.heap.size = g9 at *
            clear c0 c1 HBS hwA'
            have hlit := OwnS.fresh (c := srE) (E := 33) (w0 := wA1) (w := wA1) ((a0, n0, c0'), (a1, T.length, c1')) (Nat.le_refl _)
            have hlit' : OwnS srE 33 wA1 (wA1.alloc (.cells #[.slice a0 n0 c0', .slice a1 T.length c1'] 33)) (.slice (some ⟨wA1.heap.size, 0, none⟩) 1 1) [((a0, n0, c0'), (a1, T.length, c1'))] := hlit
            have Hlit := Lib.hid hlit'
            have HBZ := Lib.hid (HBA.out.after ((Old.refl wA1).alloc (.cells #[.slice a0 n0 c0', .slice a1 T.length c1'] 33)))
            clear hlit hlit'
            go_upto_region 13 with (at_builtin; go_loud (refine wpList_append_recs (c := srE) (w0 := wA1) rfl _ _ 22 rfl 33 Tryz.underlying22 _ infoSrO rfl (Nat.zero_lt_succ 1) _ [((a0, n0, c0'), (a1, T.length, c1'))] (t.take i).reverse rfl Hlit.out _ rfl HBZ.out.back.recs (by rw [hbl]; simp; omega) (by rw [hbl]; simp; omega) ((Old.refl wA1).alloc _) ?_); intro v5 w5 hown5 ho5 hg5; have HB5 := Lib.hid (HBA.out.putB ho5 (by rw [← Htr.out] at hown5; exact hown5)); clear hown5 hg5)
            have d1' := d1 w5 ho5
            have hf5 := HB5.out.first
            have hne9 : ∀ j, fv.ownBlock = some j → j ≠ g9 := fun j hj => by have := hfb j hj; omega
            obtain ⟨af, cf, hfv, hf1, hf2⟩ := hf5.form
            rw [hfl] at hfv hf1
            subst hfv
            clear hf5
            go_upto_region 14 with (at_builtin; go_loud (refine wpList_append_at (c := intE) (w0 := w3) rfl _ _ 42 rfl 3 Tryz.underlying42 (.int .i64 0) infoIntK rfl (Nat.zero_lt_succ 0) _ (firstL S i) [((totK S i : Nat) : Int)] rfl (HB5.out.first.old ((Old.refl w5).alloc _)) _ rfl (oneAtI w5 _) (Nat.zero_lt_succ 0) (by rw [hfl]; simp; omega) (by rw [hfl]; simp; omega) (by have := HB5.out.old.size; simp; omega) ?_); intro g6 cp6 w6 hown6 hg6 hat6 hlt6; have HB6 := Lib.hid (HB5.out.putF ((Old.refl w5).alloc _) hg6 hown6 hat6); have d6 := later (grown_cell hg6 (((Old.refl w5).alloc _).cell d1') (fun j hj => hne9 j hj)); clear hown6 hat6 hlt6 hg6)
            have hw1 : IntKind.i64.wrap ((totK S i : Int) + T.length) = (totK S i : Int) + T.length := IntWalk.i64_in _ (by omega)
            rw [← Hfs.out, hfl] at HB6
            go_wp2_with fail
            go_roundw
            case rel => exact ⟨i + 1, by go_num, by omega, by first | (rw [Hsuc.out, hw1]; rfl) | (rw [Hsuc.out]; rfl), HB6.out⟩
            case measure => simp [intOf]; omega
          · obtain rfl : i = S.length := by omega
            have hi1 : ¬ (S.length : Int) < S.length := by omega
            rw [show t.take S.length = t from by rw [← htl]; exact List.take_length] at HBS hbl
            have hsrk : Srk wr bv S.reverse := ⟨t.reverse, HBS.out.back.recs, Hboth.out.reverse.mono fun x y h => Seqs.old (c := trE) (R := TkR) (fun _ _ _ _ h o => TkR.old h o) h (o03.trans HBS.out.old)⟩
            have HB2 := Lib.hid (HBr.out bv wr (o03.trans HBS.out.old) hsrk)
            obtain ⟨ab, cb, rfl, hb1, hb2⟩ := HBS.out.back.form
            obtain ⟨af, cf, rfl, hf1, hf2⟩ := HBS.out.first.form
            have Hfc : Hid (0 < S.length → ∃ gf, af = some ⟨gf, 0, none⟩ ∧ ∀ k, k < S.length → ∀ V, Old wr V → V.cell? ⟨gf, k, none⟩ = some (.int .i64 (totK S k : Nat))) := Lib.hid fun h => by
              obtain ⟨gf, rfl, _, _⟩ := HBS.out.first.block (by rw [hfl]; exact h)
              refine ⟨gf, rfl, fun k hk V o => ?_⟩
              have h1 : (firstL S S.length)[k]? = some ((totK S k : Nat) : Int) := by
                unfold firstL
                rw [List.getElem?_map, List.getElem?_range hk]; rfl
              have h2 := HBS.out.first.cell (j := 0) h1 rfl
              rw [show k * intE.k + 0 = k from by show k * 1 + 0 = k; omega] at h2
              exact o.cell h2
            have Ho := Lib.hid (o03.trans HBS.out.old)
            have Hor := Lib.hid HBS.out.old
            rw [hfl] at hf1 ⊢
            rw [hbl] at hb1 HB2 ⊢
            clear hsrk HBS HBr Hboth hi
            go_upto_region 17 with (go_at_call 11; (with_reducible refine HB2.out.mono ?_); rintro e w7 ⟨hR, o7⟩; obtain ⟨x10, x11, rfl, hres2⟩ := hR.parts; have Hres2 := Lib.hid hres2; clear hR hres2)
            have hrev := buildK_rev S S.length (totK S S.length)
            have hrf := rev_facts S
            have hr2 := Hres2.out
            rw [List.length_reverse] at hr2 hrf
            rw [List.length_reverse] at hrev
            rw [hrf.2] at hr2
            have O7 := Lib.hid (Ho.out.trans o7)
            have O37 := Lib.hid (Hor.out.trans o7)
            have O37w := Lib.hid o7
            clear Hres2 HB2 Ho Hor
            rcases Hres.out with ⟨f, g, hk1, rfl⟩ | ⟨l, hk1, rfl, hEn⟩
            · rcases hr2 with ⟨f2, g2, hk2, rfl⟩ | ⟨l2, hk2, _, _⟩
              · clear hk1 hk2 hrev hrf Hres Hfc
                go_upto_region 18 with fail
                refine wp_region_old (Old.refl _) (by kernel_rfl) (by kernel_rfl) ?_
                repeat (go_big_quiet_step (fail))
                refine wpQuiet_nil ?_
                rintro ⟨wq, hq⟩
                dsimp only
                go_wp2_with fail
                go_ret
                exact ⟨rfl, O7.out.trans hq⟩
              · exfalso
                obtain ⟨l3, h3⟩ := hrev.2 ⟨l2, hk2⟩
                rw [hk1] at h3
                cases h3
            · rcases hr2 with ⟨f2, g2, hk2, _⟩ | ⟨l2, hk2, rfl, hEn2⟩
              · exfalso
                obtain ⟨l3, h3⟩ := hrev.1 ⟨l, hk1⟩
                rw [hk2] at h3
                cases h3
              · obtain ⟨hg, hix, hpl1, _, _⟩ := buildK_good hk1
                obtain ⟨_, hix2, _, _, _⟩ := buildK_good hk2
                have hll : l.length = l2.length := by rw [hix, hix2]; have := orders_len S; rwa [List.length_reverse] at this
                have Hat := Lib.hid (fun (i : Nat) (e : En) (he : l[i]? = some e) => by
                  have := orders_at hg Hal.out (i := i) (e := e) (by rw [← hix]; exact he)
                  rwa [List.length_reverse, ← hix2] at this)
                have Hrise := Lib.hid (fun e (he : e ∈ l) => ent_rise (S := S) (e := e) (hix ▸ he))
                obtain ⟨a3, c3, rfl, hc31, hc32⟩ := Seqs.form hEn
                obtain ⟨a4, c4, rfl, hc41, hc42⟩ := Seqs.form hEn2
                rw [← hll] at hc41
                obtain ⟨eb, eo, hea, heat⟩ := Ents.open hEn
                obtain ⟨fb, fo, hfa, hfat⟩ := Ents.open hEn2
                have Hea := Lib.hid hea
                have Heat := Lib.hid heat
                have Hfa := Lib.hid hfa
                have Hfat := Lib.hid hfat
                have hln : l.length ≤ 1000 := by rw [hix, Hlen.out]; exact Nat.le_trans Hpl.out hM
                have hll' : ((l2.length : Nat) : Int) = l.length := by omega
                clear hk1 hk2 hrev hrf Hres hEn hEn2 hea heat hfa hfat hg hix hix2 Hal Htl Hlen Hpl
                rw [← hll]
                have Hll := Lib.hid hll
                clear hll hll'
                go_upto_region 22 with fail
                go_loopw [74] (fun iv wx => ∃ i : Nat, iv = .int .i64 i ∧ i ≤ l.length ∧ Old w7 wx) (fun iv _ => l.length - (intOf iv).toNat)
                case atStart => exact ⟨0, rfl, Nat.zero_le _, Old.refl _⟩
                case round =>
                  obtain ⟨i, rfl, hi, ho⟩ := hrel
                  have Ho := Lib.hid ho
                  by_cases hlt : i < l.length
                  · have hi1 : (i : Int) < l.length := by omega
                    obtain ⟨e, he⟩ : ∃ e, l[i]? = some e := ⟨_, List.getElem?_eq_getElem hlt⟩
                    obtain ⟨e', he', q1, q2, q3, q4, q5⟩ := Hat.out i e he
                    obtain ⟨x2, y2, x3, y3, hcs, hIs, hTs⟩ := Heat.out i e he
                    obtain ⟨z2, k2, z3, k3, hcs', hIs', hTs'⟩ := Hfat.out i e' he'
                    obtain rfl := Hea.out (by omega)
                    obtain rfl := Hfa.out (by have := Hll.out; omega)
                    have hrs := (Hrise.out e (List.mem_of_getElem? he)).2
                    rw [← q1, ← q2, ← q3, ← q4] at hcs'
                    rw [← q3] at hTs'
                    have e0 : ∀ V, Old wr V → V.cell? ⟨eb, eo + i * 4, none⟩ = some (.string e.term) := fun V o => (hcs V (O37.out.trans (ho.trans o))).1
                    have e1 : ∀ V, Old wr V → V.cell? ⟨eb, eo + i * 4 + 1, none⟩ = some (.string e.sub) := fun V o => (hcs V (O37.out.trans (ho.trans o))).2.1
                    have e2 : ∀ V, Old wr V → V.cell? ⟨eb, eo + i * 4 + 2, none⟩ = some (.slice x2 e.topics.length y2) := fun V o => (hcs V (O37.out.trans (ho.trans o))).2.2.1
                    have e3 : ∀ V, Old wr V → V.cell? ⟨eb, eo + i * 4 + 3, none⟩ = some (.slice x3 e.sees.length y3) := fun V o => (hcs V (O37.out.trans (ho.trans o))).2.2.2
                    have f0 : ∀ V, Old wr V → V.cell? ⟨fb, fo + i * 4, none⟩ = some (.string e.term) := fun V o => (hcs' V (ho.trans o)).1
                    have f1 : ∀ V, Old wr V → V.cell? ⟨fb, fo + i * 4 + 1, none⟩ = some (.string e.sub) := fun V o => (hcs' V (ho.trans o)).2.1
                    have f2 : ∀ V, Old wr V → V.cell? ⟨fb, fo + i * 4 + 2, none⟩ = some (.slice z2 e.topics.length k2) := fun V o => (hcs' V (ho.trans o)).2.2.1
                    have f3 : ∀ V, Old wr V → V.cell? ⟨fb, fo + i * 4 + 3, none⟩ = some (.slice z3 e.sees.length k3) := fun V o => (hcs' V (ho.trans o)).2.2.2
                    have HTx := Lib.hid (fun V (o : Old wr V) => RTexts9_same (.slice x3 e.sees.length y3) (.slice z3 e.sees.length k3) e.sees V (hTs.old (O37.out.trans (ho.trans o))) (hTs'.old (ho.trans o)))
                    have HF2 := Lib.hid (fun V (o : Old w7 V) => (hcs' V o).2.2.1)
                    have HQ5 := Lib.hid q5
                    have HIs := Lib.hid hIs
                    have HIs' := Lib.hid hIs'
                    have hrs' := Lib.hid hrs
                    have Hq4 := Lib.hid q4
                    have hs1 := str_eqt (rfl : e.term = e.term)
                    have hs2 := str_eqt (rfl : e.sub = e.sub)
                    have hs3 := str_bnn (rfl : e.term = e.term)
                    have hs4 := str_bnn (rfl : e.sub = e.sub)
                    have hi2 : (i : Int) < l2.length := by have := Hll.out; omega
                    clear hcs hcs' hIs hTs hTs' hIs' q1 q2 q3 q4 q5 hrs he he'
                    go_upto_region 24 with fail
                    refine wp_region_old (Old.refl _) (by kernel_rfl) (by kernel_rfl) ?_
                    repeat (go_big_quiet_step (with_reducible exact Calls.in_old (HTx.out _ (OldW.old _))))
                    refine wpQuiet_nil ?_
                    rintro ⟨wq, hq⟩
                    dsimp only
                    have hoq := ho.trans hq
                    have g2 : ∀ V, Old wq V → V.cell? ⟨eb, eo + i * 4 + 2, none⟩ = some (.slice x2 e.topics.length y2) := fun V o => e2 V (hq.trans o)
                    have Hoq := Lib.hid hoq
                    clear e0 e1 e2 e3 f0 f1 f2 f3 hs1 hs2 hs3 hs4 HTx hq
                    obtain ⟨aT, capT, bT, oT, eT, hT1, hT2, haT, hatT⟩ := HIs.out
                    obtain ⟨rfl, _, rfl⟩ := Value.slice.inj eT
                    have HaT := Lib.hid haT
                    have HatT := Lib.hid hatT
                    clear eT haT hatT HIs
                    go_upto_region 27 with fail
                    clear g2
                    go_loopw [136] (fun jv wx => ∃ j : Nat, jv = .int .i64 j ∧ j ≤ e.topics.length ∧ Old w7 wx) (fun jv _ => e.topics.length - (intOf jv).toNat)
                    case atStart => exact ⟨0, rfl, Nat.zero_le _, Hoq.out⟩
                    case round =>
                      clear hoq Hoq ho Ho
                      obtain ⟨j, rfl, hj, ho⟩ := hrel
                      by_cases hltj : j < e.topics.length
                      · have hj1 : (j : Int) < e.topics.length := by omega
                        obtain ⟨x, hx⟩ : ∃ x, e.topics[j]? = some x := ⟨_, List.getElem?_eq_getElem hltj⟩
                        have hxm := List.mem_of_getElem? hx
                        obtain ⟨aa, bb, T, hTa, hbT, hxe, hmem⟩ := HQ5.out x hxm
                        obtain ⟨hx0, hxn⟩ := hrs'.out x hxm
                        obtain rfl := HaT.out (by omega)
                        have cx := HatT.out j hltj wr (O37.out.trans ho)
                        have hjx : ix e.topics j = x := by unfold ix; simp [List.getD, hx]
                        rw [hjx] at cx
                        have haS := (List.getElem?_eq_some_iff.1 hTa).1
                        obtain ⟨gf, rfl, hgf⟩ := Hfc.out (by omega)
                        have Hgf := Lib.hid (fun k hk V (o : Old w7 V) => hgf k hk V (O37w.out.trans o))
                        have hsuc := Hsi.out aa T hTa
                        have hmo := Hmono.out (aa + 1) S.length haS
                        have hw0 : IntKind.i64.wrap ((S.length : Int) - 1) = ((S.length - 1 : Nat) : Int) := by rw [show (S.length : Int) - 1 = ((S.length - 1 : Nat) : Int) by omega]; exact IntWalk.i64_in _ (by omega)
                        have Hsrc := Lib.hid (fun k (hk : ∀ j, k < j → j < S.length → totK S aa + bb < totK S j) (hle : totK S k ≤ totK S aa + bb) => src_of hTa hbT hk hle)
                        have HTa := Lib.hid hTa
                        have Hmem := Lib.hid hmem
                        have Hxe := Lib.hid hxe
                        have Ho := Lib.hid ho
                        have hbT' : bb < T.length := hbT
                        clear hx hxm hmem hTa hxe hgf hjx hbT
                        go_upto_region 32 with fail
                        clear cx
                        go_loopw [15] (fun kv wx => ∃ k : Nat, kv = .int .i64 k ∧ k < S.length ∧ (∀ j, k < j → j < S.length → totK S aa + bb < totK S j) ∧ Old w7 wx) (fun kv _ => (intOf kv).toNat)
                        case atStart => exact ⟨S.length - 1, by first | rfl | rw [hw0], by omega, fun j h1 h2 => by omega, Ho.out⟩
                        case round =>
                          clear ho Ho hw0
                          obtain ⟨k, rfl, hk, hbig, ho⟩ := hrel
                          have Hbig := Lib.hid hbig
                          have ck := Hgf.out k hk wr ho
                          have hk1 : (k : Int) < S.length := by omega
                          clear hbig
                          by_cases hgt : totK S aa + bb < totK S k
                          · have hgt' : x < (totK S k : Nat) := by have := Hxe.out; omega
                            obtain ⟨k', rfl⟩ : ∃ k', k = k' + 1 := by
                              cases k with
                              | zero => rw [H0.out] at hgt; omega
                              | succ k => exact ⟨k, rfl⟩
                            have hw1 : IntKind.i64.wrap (((k' + 1 : Nat) : Int) - 1) = (k' : Int) := by rw [show ((k' + 1 : Nat) : Int) - 1 = (k' : Int) from by omega]; exact IntWalk.i64_in _ (by omega)
                            have hw2 : IntKind.i64.wrap ((k' : Int) + 1 - 1) = (k' : Int) := by rw [show (k' : Int) + 1 - 1 = (k' : Int) from by omega]; exact IntWalk.i64_in _ (by omega)
                            have Hnx : Hid (∀ j, k' < j → j < S.length → totK S aa + bb < totK S j) := Lib.hid fun j h1 h2 => by
                              rcases Nat.lt_or_ge (k' + 1) j with h | h
                              · exact Hbig.out j h h2
                              · obtain rfl : j = k' + 1 := by omega
                                exact hgt
                            go_wp2_with fail
                            go_roundw
                            case rel => exact ⟨k', by first | rfl | go_num, by omega, Hnx.out, ho⟩
                            case measure => simp [intOf]; try omega
                          · have hgt' : ¬ x < (totK S k : Nat) := by have := Hxe.out; omega
                            have hka := Hsrc.out k Hbig.out (by omega)
                            subst hka
                            obtain ⟨a1, c1', hsl⟩ := Hsl.out k T HTa.out
                            obtain rfl := Has.out (by omega)
                            have sc : ∀ V, Old wr V → V.cell? ⟨b0, off0 + k * 2 + 1, none⟩ = some (.slice a1 T.length c1') := fun V o => hsl V (O7.out.trans (ho.trans o))
                            have f2 : ∀ V, Old wr V → V.cell? ⟨fb, fo + i * 4 + 2, none⟩ = some (.slice z2 e.topics.length k2) := fun V o => HF2.out V (ho.trans o)
                            have ckk : ∀ V, Old wr V → V.cell? ⟨gf, k, none⟩ = some (.int .i64 (totK S k : Nat)) := fun V o => Hgf.out k hk V (ho.trans o)
                            have hxe := Hxe.out
                            have HHz : Hid (∀ V, Old wr V → Calls Tryz.prog 13 #[.slice z2 e.topics.length k2, .int .i64 ((totK S S.length : Int) - (totK S k : Int) - (T.length : Int) + x - (totK S k : Int))] V fun e w' => e = .returned (.bool true) ∧ Old V w') := Lib.hid fun V o => by
                              have h1 := holds_any _ e'.topics ((totK S S.length : Int) - (totK S k : Int) - (T.length : Int) + x - (totK S k : Int)) V (HIs'.out.old (ho.trans o))
                              rw [← Hq4.out, show (e'.topics.any fun y => decide (y = (totK S S.length : Int) - (totK S k : Int) - (T.length : Int) + x - (totK S k : Int))) = true from List.any_eq_true.2 ⟨_, Hmem.out, by simp⟩] at h1
                              exact h1
                            have hq1 : IntKind.i64.wrap ((totK S S.length : Int) - (totK S k : Int)) = (totK S S.length : Int) - (totK S k : Int) := IntWalk.i64_in _ (by omega)
                            have hq2 : IntKind.i64.wrap ((totK S S.length : Int) - (totK S k : Int) - (T.length : Int)) = (totK S S.length : Int) - (totK S k : Int) - (T.length : Int) := IntWalk.i64_in _ (by omega)
                            have hq3 : IntKind.i64.wrap ((totK S S.length : Int) - (totK S k : Int) - (T.length : Int) + x) = (totK S S.length : Int) - (totK S k : Int) - (T.length : Int) + x := IntWalk.i64_in _ (by omega)
                            have hq4 : IntKind.i64.wrap ((totK S S.length : Int) - (totK S k : Int) - (T.length : Int) + x - (totK S k : Int)) = (totK S S.length : Int) - (totK S k : Int) - (T.length : Int) + x - (totK S k : Int) := IntWalk.i64_in _ (by omega)
                            clear hxe hsl
                            go_upto_region 34 with fail
                            clear ck
                            refine wp_region_old (Old.refl _) (by kernel_rfl) (by kernel_rfl) ?_
                            repeat (go_big_quiet_step (with_reducible exact Calls.in_old (HHz.out _ (OldW.old _))))
                            refine wpQuiet_nil ?_
                            rintro ⟨wq, hq⟩
                            dsimp only
                            have hoq := ho.trans hq
                            clear sc f2 ckk hq1 hq2 hq3 hq4
                            go_wp2_with fail
                            go_roundw
                            case rel => first
                              | exact ⟨j + 1, by go_num, by omega, hoq⟩
                              | ((repeat apply Exists.intro); refine ⟨⟨j + 1, ?_, by omega, hoq⟩, ?_⟩; rfl; ((repeat' apply And.intro) <;> rfl))
                            case measure => simp [intOf]; try omega
                      · obtain rfl : j = e.topics.length := by omega
                        have hj1 : ¬ (e.topics.length : Int) < e.topics.length := by omega
                        go_wp2_with fail
                        go_roundw
                        case rel => first
                          | exact ⟨i + 1, by go_num, by omega, ho⟩
                          | ((repeat apply Exists.intro); refine ⟨⟨i + 1, ?_, by omega, ho⟩, ?_⟩; rfl; ((repeat' apply And.intro) <;> rfl))
                        case measure => simp [intOf]; try omega
                  · obtain rfl : i = l.length := by omega
                    have hi1 : ¬ (l.length : Int) < l.length := by omega
                    go_wp2_with fail
                    go_ret
                    exact ⟨rfl, O7.out.trans ho⟩
  · have hfd : (decide (totN S S.length ≤ 300) && decide (S.length ≤ 200)) = false := by
      rw [← Bool.not_eq_true]
      intro h
      rw [Bool.and_eq_true, decide_eq_true_eq, decide_eq_true_eq] at h
      exact hfw h
    rw [hfd] at HN
    clear hfd hfw hv hT hB hS
    go_enter Tryz.func4, Tryz.ntmps4
    go_wp2_with (first
      | (go_at_call 9; refine HA.out.mono ?_; rintro e w1 ⟨rfl, o1⟩)
      | (go_at_call 10; refine (HN.out _ o1).mono ?_; rintro e w2 ⟨rfl, o2⟩; have o12 := o1.trans o2))
    go_ret
    exact ⟨rfl, o12⟩
end Go.Proofs.YtohngjkedhpikaaGreatDoor
