/-
  KEYWORD, RZ: the document's entries: the first see that may not be.
-/
import Derived.Test.YtohngjkedhpikaaGreatDoorZKwRy
import Derived.Test.YtohngjkedhpikaaGreatDoorZKwRr
import Derived.Test.YtohngjkedhpikaaGreatDoorZKwN
namespace Go.Proofs.YtohngjkedhpikaaGreatDoor
open Go.RowKit Go.Maps
attribute [local go_sem] Old.refl Old.alloc Old.drew Old.setCell OldW.old

theorem has_any9 {l : List En} {t : ByteArray} : (l.any fun e => decide (foldS e.term = t)) = true ↔ hasL l t := by
  rw [List.any_eq_true]
  constructor
  · rintro ⟨e, he, h⟩; exact ⟨e, he, by simpa using h⟩
  · rintro ⟨e, he, h⟩; exact ⟨e, he, by simpa using h⟩
theorem holds_mem9 {O : List ByteArray} {x : ByteArray} : (O.any fun y => decide (y = x)) = true ↔ x ∈ O := by
  rw [List.any_eq_true]
  constructor
  · rintro ⟨y, hy, h⟩; have h := of_decide_eq_true h; exact h ▸ hy
  · intro h; exact ⟨x, h, by simp⟩
theorem seeF_key9 {M : List Mn} {k i : Int} {x : Kq} : seeF M (mnK k i x) = none := by simp [seeF, mnK]
theorem seeF_919 {M : List Mn} {k i : Int} {x : Sq} (h : ¬ hasM M (foldS x.aim)) : seeF M (mnS k i x) = some ⟨91, i, x.line, 0, x.aim⟩ := by simp [seeF, mnS, h]
theorem seeF_929 {M : List Mn} {k i : Int} {x : Sq} (h : hasM M (foldS x.aim)) (h2 : Rch (edgeM M) (foldS x.aim) (foldS x.frm)) : seeF M (mnS k i x) = some ⟨92, i, x.line, 0, x.aim⟩ := by simp [seeF, mnS, h, h2]
theorem seeF_no9 {M : List Mn} {k i : Int} {x : Sq} (h : hasM M (foldS x.aim)) (h2 : ¬ Rch (edgeM M) (foldS x.aim) (foldS x.frm)) : seeF M (mnS k i x) = none := by simp [seeF, mnS, h, h2]
theorem flat_le9 {l : List En} {B : Nat} (h : ∀ e ∈ l, e.sees.length ≤ B) : (l.flatMap En.sees).length ≤ l.length * B := by
  induction l with
  | nil => simp
  | cons e l ih =>
    have h1 := h e (by simp)
    have h2 := ih fun x hx => h x (by simp [hx])
    rw [List.flatMap_cons, List.length_append, List.length_cons, Nat.add_mul, Nat.one_mul]
    omega
theorem raw_flat9 {M : List Mn} (hl : M.length ≤ 1000) : ((rawOf M).flatMap En.sees).length ≤ 1000000 := by
  have h1 : (rawOf M).length ≤ 1000 := by rw [rawOf_length]; exact Nat.le_trans (places_length _) hl
  have h2 := flat_le9 (l := rawOf M) (B := 1000) fun e he => by
    obtain ⟨p, _, rfl⟩ := ix_mem.1 (rawOf_mem.1 he)
    show (srt cmpS (seesOf M p)).length ≤ 1000
    have := seesOf_le M p
    rw [srt_length]
    omega
  have h3 := Nat.mul_le_mul_right 1000 h1
  omega
theorem keys_none9 {M P : List Mn} {k i : Int} {l : List Kq} (h : ∀ m ∈ P, seeF M m = none) : ∀ m ∈ P ++ l.map (mnK k i), seeF M m = none := fun m hm => by
  rcases List.mem_append.1 hm with h' | h'
  · exact h m h'
  · obtain ⟨x, _, rfl⟩ := List.mem_map.1 h'
    exact seeF_key9
set_option maxRecDepth 100000 in
set_option maxHeartbeats 6400000 in
theorem sees_any (v lv : Value) (S : List (List Tk)) (w : World) (hv : Srk w v S) (hL : Ents w lv (rawOf (mns S S.length))) (hM : (mns S S.length).length ≤ 1000) (hz : ∀ m ∈ mns S S.length, MnZ m) (hT : (mns S S.length).findSome? termF = none) :
    Calls Tryz.prog 78 #[v, lv] w fun e w' => e = .returned (.agg (fltC (((mns S S.length).findSome? (seeF (mns S S.length))).getD zeroF)).toArray) ∧ Old w w' := by
  obtain ⟨sa, scap, rfl, hsc1, hsc2⟩ := Seqs.form hv
  obtain ⟨ea, ecap, rfl, hec1, hec2⟩ := Seqs.form hL
  have Hmem := Lib.hid (fun (a b : Nat) (T : List Tk) (t : Tk) (h1 : S[a]? = some T) (h2 : T[b]? = some t) (m : Mn) (hm : m ∈ mnT ((totK S a + b : Nat) : Int) a t) => mem_mns.2 ⟨a, b, T, t, (List.getElem?_eq_some_iff.1 h1).1, h1, h2, hm⟩)
  have Hroom := Lib.hid (fun (a b : Nat) (T : List Tk) (t : Tk) (h1 : S[a]? = some T) (h2 : T[b]? = some t) => mns_room h1 h2)
  have Hz := Lib.hid hz
  have Hpre := Lib.hid (fun (a b : Nat) (T : List Tk) (t : Tk) (h1 : S[a]? = some T) (h2 : T[b]? = some t) => show mns S a ++ mnsT (totK S a) a T b ++ mnT ((totK S a + b : Nat) : Int) a t <+: mns S S.length from by
    rw [List.append_assoc, ← mnsT_succ h2]
    refine List.IsPrefix.trans ?_ (mns_pre S (List.getElem?_eq_some_iff.1 h1).1)
    rw [mns_succ h1]
    exact (List.prefix_append_right_inj _).2 (mnsT_pre _ _ T (List.getElem?_eq_some_iff.1 h2).1))
  have hE : edgeL (rawOf (mns S S.length)) = edgeM (mns S S.length) := funext fun a => funext fun b => propext (raw_edge (fun m hm => mns_see hm) (fun m hm => (may_of_none hT m hm).2.1))
  have hsm := raw_small hM hz
  have hfl := raw_flat9 hM
  have Hhas := Lib.hid (fun (t : ByteArray) => (has_any9 (l := rawOf (mns S S.length)) (t := t)).trans raw_has)
  have HH := Lib.hid (fun (t : ByteArray) V (o : Old w V) => RHas_any _ _ t V (hL.old o) (fun e he => (hsm e he).1.1))
  have HR := Lib.hid (fun (a : ByteArray) V (o : Old w V) => RReach_any _ _ a V (hL.old o) hfl (fun e he => ⟨(hsm e he).1.1, (hsm e he).1.2.2.1, (hsm e he).2.2.2⟩))
  rw [hE] at HR
  obtain ⟨bs, os, has, hats⟩ := Srk.open hv
  have Has := Lib.hid has
  have Hats := Lib.hid hats
  have Hlen := Lib.hid hM
  clear hv has hats hz hE hsm hfl hL hT hM
  generalize hMM : mns S S.length = M at *
  have Hall : Hid ((∀ m ∈ M, seeF M m = none) → M.findSome? (seeF M) = none) := Lib.hid fun h => List.findSome?_eq_none_iff.2 h
  have HMM := Lib.hid hMM
  clear hMM
  generalize rawOf M = R at *
  go_enter Tryz.func78, Tryz.ntmps78
  go_upto_region 1 with fail
  have hwz : Old w (w.alloc (.cells #[.int .i64 0, .int .i64 0, .int .i64 0, .int .i64 0, .string ⟨#[]⟩, .slice none 0 0] 72)) := (Old.refl w).alloc _
  have HX := Lib.hid (FBox.new w)
  generalize w.alloc (.cells #[.int .i64 0, .int .i64 0, .int .i64 0, .int .i64 0, .string ⟨#[]⟩, .slice none 0 0] 72) = wz at *
  generalize hBB : w.heap.size = B at *
  have hBw : w.heap.size ≤ B := Nat.le_of_eq hBB
  go_wp2_with fail
  go_loopw [15] (fun j wx => ∃ (i : Nat), j = .int .i64 i ∧ i ≤ S.length ∧ (∀ m ∈ mns S i, seeF M m = none) ∧ Old wz wx) (fun j _ => S.length - (intOf j).toNat)
  case atStart => exact ⟨0, rfl, Nat.zero_le _, (fun m hm => by cases hm), Old.refl _⟩
  case round =>
    obtain ⟨i, rfl, hi, hA, ho⟩ := hrel
    have HA := Lib.hid hA
    clear hA
    by_cases hlt : i < S.length
    · have hi1 : (i : Int) < S.length := by omega
      obtain ⟨T, hTi⟩ : ∃ T, S[i]? = some T := ⟨_, List.getElem?_eq_getElem hlt⟩
      obtain ⟨a0, n0, c0', ax, cx, hcs, hTs, k1, k2⟩ := Hats.out i T hTi
      obtain rfl := Has.out (by omega)
      have c0 : ∀ V, Old wr V → V.cell? ⟨bs, os + i * 2, none⟩ = some (.slice a0 n0 c0') := fun V o => (hcs V (hwz.trans (ho.trans o))).1
      have c1 : ∀ V, Old wr V → V.cell? ⟨bs, os + i * 2 + 1, none⟩ = some (.slice ax T.length cx) := fun V o => (hcs V (hwz.trans (ho.trans o))).2
      obtain ⟨bt, ot, hat, hatt⟩ := Trs.open hTs
      have HTi := Lib.hid hTi
      have Hat := Lib.hid hat
      have Hatt := Lib.hid hatt
      have Hsuc : Hid (mns S (i + 1) = mns S i ++ mnsT (totK S i) i T T.length) := Lib.hid (mns_succ hTi)
      clear hcs hTs hat hatt hTi
      go_upto_region 4 with fail
      have d1 := later (show (wr.alloc (.cells #[.slice a0 n0 c0', .slice ax T.length cx] 33)).cell? ⟨wr.heap.size, 1, none⟩ = some (.slice ax T.length cx) by simp [go_sem])
      have ho1 := ho.alloc (.cells #[.slice a0 n0 c0', .slice ax T.length cx] 33)
      generalize wr.alloc (.cells #[.slice a0 n0 c0', .slice ax T.length cx] 33) = w1 at *
      generalize wr.heap.size = g1 at *
      clear c0 c1 ho
      go_wp2_with fail
      go_loopw [23] (fun j wx => ∃ (q : Nat), j = .int .i64 q ∧ q ≤ T.length ∧ (∀ m ∈ mns S i ++ mnsT (totK S i) i T q, seeF M m = none) ∧ Old wz wx) (fun j _ => T.length - (intOf j).toNat)
      case atStart => exact ⟨0, rfl, Nat.zero_le _, by rw [mnsT, List.append_nil]; exact HA.out, ho1⟩
      case round =>
        clear d1 HA ho1
        obtain ⟨q, rfl, hq, hA, ho⟩ := hrel
        have HA := Lib.hid hA
        clear hA
        by_cases hlt2 : q < T.length
        · have hq1 : (q : Int) < T.length := by omega
          obtain ⟨t, ht⟩ : ∃ t, T[q]? = some t := ⟨_, List.getElem?_eq_getElem hlt2⟩
          obtain ⟨kd, nm, ti, l3, a4, c4', a5, c5', a6, n6, c6', ln, hcs, hK4, hK5⟩ := Hatt.out q t ht
          obtain rfl := Hat.out (by omega)
          have g0 : ∀ V, Old wr V → V.cell? ⟨bt, ot + q * 8, none⟩ = some (.int .i64 kd) := fun V o => (hcs V (hwz.trans (ho.trans o))).1
          have g1' : ∀ V, Old wr V → V.cell? ⟨bt, ot + q * 8 + 1, none⟩ = some (.string nm) := fun V o => (hcs V (hwz.trans (ho.trans o))).2.1
          have g2 : ∀ V, Old wr V → V.cell? ⟨bt, ot + q * 8 + 2, none⟩ = some (.string ti) := fun V o => (hcs V (hwz.trans (ho.trans o))).2.2.1
          have g3 : ∀ V, Old wr V → V.cell? ⟨bt, ot + q * 8 + 3, none⟩ = some (.int .i64 l3) := fun V o => (hcs V (hwz.trans (ho.trans o))).2.2.2.1
          have g4 : ∀ V, Old wr V → V.cell? ⟨bt, ot + q * 8 + 4, none⟩ = some (.slice a4 t.keys.length c4') := fun V o => (hcs V (hwz.trans (ho.trans o))).2.2.2.2.1
          have g5 : ∀ V, Old wr V → V.cell? ⟨bt, ot + q * 8 + 5, none⟩ = some (.slice a5 t.sees.length c5') := fun V o => (hcs V (hwz.trans (ho.trans o))).2.2.2.2.2.1
          have g6 : ∀ V, Old wr V → V.cell? ⟨bt, ot + q * 8 + 6, none⟩ = some (.slice a6 n6 c6') := fun V o => (hcs V (hwz.trans (ho.trans o))).2.2.2.2.2.2.1
          have g7 : ∀ V, Old wr V → V.cell? ⟨bt, ot + q * 8 + 7, none⟩ = some (.int .i64 ln) := fun V o => (hcs V (hwz.trans (ho.trans o))).2.2.2.2.2.2.2
          obtain ⟨b5, f5, ha5, h5⟩ := Sqs'.open hK5
          have Ha5 := Lib.hid ha5
          have H5 := Lib.hid h5
          have hrs : t.sees.length ≤ 1000000 := by
            have h1 := Hroom.out i q T t HTi.out ht
            have h2 := Hlen.out
            omega
          obtain ⟨kq, hkq⟩ : ∃ kq : Int, ((totK S i + q : Nat) : Int) = kq := ⟨_, rfl⟩
          have HTs : Hid (mns S i ++ mnsT (totK S i) i T (q + 1) = (mns S i ++ mnsT (totK S i) i T q) ++ mnT kq i t) := Lib.hid (by rw [mnsT_succ ht, List.append_assoc, hkq])
          have HMt := Lib.hid (fun (m : Mn) (hm : m ∈ mnT kq i t) => Hz.out m (Hmem.out i q T t HTi.out ht m (by rw [hkq]; exact hm)))
          have HPr : Hid (mns S i ++ mnsT (totK S i) i T q ++ mnT kq i t <+: M) := Lib.hid (by rw [← hkq]; exact Hpre.out i q T t HTi.out ht)
          clear hcs hK4 hK5 ha5 h5 ht hkq
          go_upto_region 7 with fail
          have C5 := later (show (wr.alloc (.cells #[.int .i64 kd, .string nm, .string ti, .int .i64 l3, .slice a4 t.keys.length c4', .slice a5 t.sees.length c5', .slice a6 n6 c6', .int .i64 ln] 38)).cell? ⟨wr.heap.size, 5, none⟩ = some (.slice a5 t.sees.length c5') by simp [go_sem])
          have hoA := ho.alloc (.cells #[.int .i64 kd, .string nm, .string ti, .int .i64 l3, .slice a4 t.keys.length c4', .slice a5 t.sees.length c5', .slice a6 n6 c6', .int .i64 ln] 38)
          generalize wr.alloc (.cells #[.int .i64 kd, .string nm, .string ti, .int .i64 l3, .slice a4 t.keys.length c4', .slice a5 t.sees.length c5', .slice a6 n6 c6', .int .i64 ln] 38) = wA at *
          generalize wr.heap.size = g8 at *
          clear g0 g1' g2 g3 g4 g5 g6 g7 ho
          generalize hP : mns S i ++ mnsT (totK S i) i T q = P at *
          clear hP
          have HA' := Lib.hid (keys_none9 (k := kq) (i := i) (l := t.keys) HA.out)
          clear HA
          go_wp2_with fail
          clear C5
          go_loopw [30] (fun j wx => ∃ (r : Nat), j = .int .i64 r ∧ r ≤ t.sees.length ∧ (∀ m ∈ P ++ t.keys.map (mnK kq i) ++ (t.sees.take r).map (mnS kq i), seeF M m = none) ∧ Old wz wx) (fun j _ => t.sees.length - (intOf j).toNat)
          case atStart => exact ⟨0, rfl, Nat.zero_le _, by rw [List.take_zero, List.map_nil, List.append_nil]; exact HA'.out, hoA⟩
          case round =>
            clear HA' hoA
            obtain ⟨r, rfl, hr, hA, ho⟩ := hrel
            have HA := Lib.hid hA
            clear hA
            by_cases hlt3 : r < t.sees.length
            · have hr1 : (r : Int) < t.sees.length := by omega
              obtain ⟨x, hx⟩ : ∃ x, t.sees[r]? = some x := ⟨_, List.getElem?_eq_getElem hlt3⟩
              obtain rfl := Ha5.out (by omega)
              have e0 : ∀ V, Old wr V → V.cell? ⟨b5, f5 + r * 3, none⟩ = some (.string x.frm) := fun V o => (H5.out r x hx V (hwz.trans (ho.trans o))).1
              have e1 : ∀ V, Old wr V → V.cell? ⟨b5, f5 + r * 3 + 1, none⟩ = some (.string x.aim) := fun V o => (H5.out r x hx V (hwz.trans (ho.trans o))).2.1
              have e2 : ∀ V, Old wr V → V.cell? ⟨b5, f5 + r * 3 + 2, none⟩ = some (.int .i64 x.line) := fun V o => (H5.out r x hx V (hwz.trans (ho.trans o))).2.2
              have hmz := HMt.out (mnS kq i x) (by rw [mnT, List.mem_append, List.mem_map, List.mem_map]; exact .inr ⟨x, List.mem_of_getElem? hx, rfl⟩)
              have HFt := Lib.hid (fun V => RFold_any x.aim V hmz.a.2.2)
              have HFf := Lib.hid (fun V => RFold_any x.frm V hmz.a.1)
              have hpk := pre_sees HPr.out hx
              have Hfl : Hid (∀ f, seeF M (mnS kq i x) = some f → M.findSome? (seeF M) = some f) := Lib.hid fun f hf => first_pre hpk HA.out hf
              have Hnx : Hid (seeF M (mnS kq i x) = none → ∀ m ∈ P ++ t.keys.map (mnK kq i) ++ (t.sees.take (r + 1)).map (mnS kq i), seeF M m = none) := Lib.hid fun h => by
                rw [List.take_add_one, hx, List.map_append, ← List.append_assoc]
                exact none_snoc HA.out h
              have H91 := Lib.hid (fun h => seeF_919 (M := M) (k := kq) (i := i) (x := x) h)
              have H92 := Lib.hid (fun h h2 => seeF_929 (M := M) (k := kq) (i := i) (x := x) h h2)
              have H00 := Lib.hid (fun h h2 => seeF_no9 (M := M) (k := kq) (i := i) (x := x) h h2)
              have HHt := Lib.hid (HH.out (foldS x.aim))
              have HRt := Lib.hid (HR.out (foldS x.aim))
              have Hrx := Lib.hid (fun O h => IsReach.rch (E := edgeM M) (a := foldS x.aim) (O := O) h (b := foldS x.frm))
              have Hhi := Lib.hid (Hhas.out (foldS x.aim))
              clear hx hpk hmz
              generalize foldS x.aim = tt at *
              generalize foldS x.frm = frm at *
              generalize (R.any fun e => decide (foldS e.term = tt)) = hb at *
              go_upto_region 10 with fail
              have p0 := later (show (wr.alloc (.cells #[.string x.frm, .string x.aim, .int .i64 x.line] 78)).cell? ⟨wr.heap.size, 0, none⟩ = some (.string x.frm) by simp [go_sem])
              have p1 := later (show (wr.alloc (.cells #[.string x.frm, .string x.aim, .int .i64 x.line] 78)).cell? ⟨wr.heap.size, 1, none⟩ = some (.string x.aim) by simp [go_sem])
              have p2 := later (show (wr.alloc (.cells #[.string x.frm, .string x.aim, .int .i64 x.line] 78)).cell? ⟨wr.heap.size, 2, none⟩ = some (.int .i64 x.line) by simp [go_sem])
              have hoB := ho.alloc (.cells #[.string x.frm, .string x.aim, .int .i64 x.line] 78)
              generalize wr.alloc (.cells #[.string x.frm, .string x.aim, .int .i64 x.line] 78) = wB at *
              generalize wr.heap.size = gr at *
              clear e0 e1 e2 ho
              refine wp_region_old (Old.refl wB) (by kernel_rfl) (by kernel_rfl) ?_
              repeat (go_big_quiet_step (first | with_reducible exact Calls.in_old (HFt.out _) | with_reducible exact Calls.in_old (HFf.out _)))
              refine wpQuiet_nil ?_
              rintro ⟨wq, hq⟩
              dsimp only
              have P2 := Lib.hid (fun V (o : Old wq V) => p2 V (hq.trans o))
              have P1 := Lib.hid (fun V (o : Old wq V) => p1 V (hq.trans o))
              have hoZ := hoB.trans hq
              have hoq := hwz.trans hoZ
              clear p0 p1 p2
              by_cases hh : hasM M tt
              · have hbt := Hhi.out.2 hh
                subst hbt
                go_upto_region 13 with (go_at_call 67; (with_reducible refine (HHt.out _ hoq).mono ?_); rintro z w5 ⟨rfl, o5⟩)
                have ho5 := hoq.trans o5
                clear HHt
                go_cut [59] (fun u wy => ∃ r : Bool, u = .bool r ∧ (r = true ↔ Rch (edgeM M) tt frm) ∧ Old w5 wy)
                case first =>
                  by_cases htf : tt = frm
                  · have htb := str_eqt htf
                    have hrch : Rch (edgeM M) tt frm := htf ▸ .refl
                    clear HRt htf
                    go_wp2_with fail
                    go_meet
                    exact ⟨true, rfl, ⟨fun _ => hrch, fun _ => rfl⟩, Old.refl _⟩
                  · have htb := str_eqf htf
                    go_wp2_with (first
                      | (go_at_call 68; (with_reducible refine (HRt.out _ ho5).mono ?_); rintro z w7 ⟨⟨u7, O, rfl, hO, hown7⟩, o7⟩; have HHo := Lib.hid (Holds_any u7 O frm w7 (Txts.of_recs hown7.recs)); have HOO := Lib.hid hO; clear hO hown7)
                      | (go_at_call 22; (with_reducible refine HHo.out.mono ?_); rintro z w8 ⟨rfl, o8⟩; have o78 := o7.trans o8))
                    go_meet
                    refine ⟨_, rfl, ?_, o78⟩
                    rw [holds_mem9, ← Hrx.out O HOO.out]
                    exact ⟨.inr, fun h => h.resolve_left htf⟩
                case rest =>
                  obtain ⟨wC, hwC⟩ : ∃ x, x = wc := ⟨wc, rfl⟩
                  subst hwC
                  obtain ⟨r', rfl, hr', hoC⟩ := hcut
                  have Hr := Lib.hid hr'
                  have hoY := hoZ.trans (o5.trans hoC)
                  have p1 := fun V (o : Old wC V) => P1.out V ((o5.trans hoC).trans o)
                  have p2 := fun V (o : Old wC V) => P2.out V ((o5.trans hoC).trans o)
                  clear hr'
                  cases r' with
                  | true =>
                    have HFl := Lib.hid (Hfl.out _ (H92.out hh (Hr.out.1 (by first | trivial | rfl))))
                    go_wp2_with (first
                      | (go_at_call 75; refine (At_any 92 i x.line 0 x.aim _).mono ?_; rintro e w6 ⟨rfl, o6⟩; have q0 := HX.out.c0 _ (hoY.trans o6); have q1 := HX.out.c1 _ (hoY.trans o6); have q2 := HX.out.c2 _ (hoY.trans o6); have q3 := HX.out.c3 _ (hoY.trans o6); have q4 := HX.out.c4 _ (hoY.trans o6); have q5 := HX.out.c5 _ (hoY.trans o6); have qf := HX.out.fz _ (hoY.trans o6); simp only [fltC]))
                    (try simp only [Exit.inBlock, Exit.then])
                    refine bodyPost_ret (v := .agg (fltC ⟨92, i, x.line, 0, x.aim⟩).toArray) (by simp [results, Tryz.results78, go_sem, q0, q1, q2, q3, q4, q5, fltC]) rfl ⟨by rw [HFl.out]; rfl, old_six (hwz.trans (hoY.trans o6)) hBw⟩
                  | false =>
                    have Hn := Lib.hid (Hnx.out (H00.out hh (fun h => by have := Hr.out.2 h; revert this; simp)))
                    go_wp2_with fail
                    go_roundw
                    case rel => exact ⟨r + 1, by go_num, by omega, Hn.out, hoY⟩
                    case measure => simp [intOf]; omega
              · have hbf : hb = false := by cases hb with
                  | false => rfl
                  | true => exact absurd (Hhi.out.1 rfl) hh
                subst hbf
                have HFl := Lib.hid (Hfl.out _ (H91.out hh))
                have p1 := P1.out
                have p2 := P2.out
                go_wp2_with (first
                  | (go_at_call 67; (with_reducible refine (HHt.out _ hoq).mono ?_); rintro z w5 ⟨rfl, o5⟩)
                  | (go_at_call 75; refine (At_any 91 i x.line 0 x.aim _).mono ?_; rintro e w6 ⟨rfl, o6⟩; have q0 := HX.out.c0 _ (hoZ.trans (o5.trans o6)); have q1 := HX.out.c1 _ (hoZ.trans (o5.trans o6)); have q2 := HX.out.c2 _ (hoZ.trans (o5.trans o6)); have q3 := HX.out.c3 _ (hoZ.trans (o5.trans o6)); have q4 := HX.out.c4 _ (hoZ.trans (o5.trans o6)); have q5 := HX.out.c5 _ (hoZ.trans (o5.trans o6)); have qf := HX.out.fz _ (hoZ.trans (o5.trans o6)); simp only [fltC]))
                (try simp only [Exit.inBlock, Exit.then])
                refine bodyPost_ret (v := .agg (fltC ⟨91, i, x.line, 0, x.aim⟩).toArray) (by simp [results, Tryz.results78, go_sem, q0, q1, q2, q3, q4, q5, fltC]) rfl ⟨by rw [HFl.out]; rfl, old_six (hwz.trans (hoZ.trans (o5.trans o6))) hBw⟩
            · obtain rfl : r = t.sees.length := by omega
              have hr1 : ¬ (t.sees.length : Int) < t.sees.length := by omega
              rw [List.take_length] at HA
              go_wp2_with fail
              go_roundw
              case rel => exact ⟨q + 1, by go_num, by omega, by rw [HTs.out, mnT, ← List.append_assoc]; exact HA.out, ho⟩
              case measure => simp [intOf]; omega
        · obtain rfl : q = T.length := by omega
          have hq1 : ¬ (T.length : Int) < T.length := by omega
          go_wp2_with fail
          go_roundw
          case rel => exact ⟨i + 1, by go_num, by omega, by rw [Hsuc.out]; exact HA.out, ho⟩
          case measure => simp [intOf]; omega
    · obtain rfl : i = S.length := by omega
      have hi1 : ¬ (S.length : Int) < S.length := by omega
      have Hn := Lib.hid (Hall.out (by rw [HMM.out] at HA; exact HA.out))
      have q0 := HX.out.c0 _ ho
      have q1 := HX.out.c1 _ ho
      have q2 := HX.out.c2 _ ho
      have q3 := HX.out.c3 _ ho
      have q4 := HX.out.c4 _ ho
      have q5 := HX.out.c5 _ ho
      have qf := HX.out.fz _ ho
      go_wp2_with fail
      (try simp only [Exit.inBlock, Exit.then])
      refine bodyPost_ret (v := .agg (fltC zeroF).toArray) (by simp [results, Tryz.results78, go_sem, q0, q1, q2, q3, q4, q5, fltC, zeroF]) rfl ⟨by rw [Hn.out]; rfl, old_six (hwz.trans ho) hBw⟩
end Go.Proofs.YtohngjkedhpikaaGreatDoor
