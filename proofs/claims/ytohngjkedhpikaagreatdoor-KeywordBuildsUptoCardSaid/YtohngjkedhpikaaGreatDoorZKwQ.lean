/-
  KEYWORD, E: entries as they lie; headings.
-/
import Derived.Test.YtohngjkedhpikaaGreatDoorZMapsV
import Derived.Test.YtohngjkedhpikaaGreatDoorZKwA
import Derived.Test.YtohngjkedhpikaaGreatDoorZTextCodesD
import Derived.Test.YtohngjkedhpikaaGreatDoorZTextRefI
import Derived.Deep.LoopGhost
import Derived.Test.YtohngjkedhpikaaGreatDoorZTextRefA
import Derived.Test.YtohngjkedhpikaaGreatDoorZTextDigits
namespace Go.Proofs.YtohngjkedhpikaaGreatDoor
open Go.RowKit
attribute [local go_sem] Old.refl Old.alloc Old.drew Old.setCell OldW.old

/-- an entry as it lies -/
structure Er where
  term : ByteArray
  sub : ByteArray
  s2 : Sl
  s3 : Sl
def erE : Enc Er := ⟨4, fun x => [.string x.term, .string x.sub, x.s2.v, x.s3.v], fun _ => rfl, fun x u hu => by
  simp only [List.mem_cons, List.not_mem_nil, or_false] at hu
  rcases hu with rfl | rfl | rfl | rfl <;> rfl⟩
def ErR (w : World) (x : Er) (e : En) : Prop := x.term = e.term ∧ x.sub = e.sub ∧ Ints w x.s2.v e.topics ∧ Txts w x.s3.v e.sees
theorem ErR.old {w W : World} {x : Er} {e : En} (h : ErR w x e) (o : Old w W) : ErR W x e := ⟨h.1, h.2.1, h.2.2.1.old o, h.2.2.2.old o⟩
def Ents (w : World) (v : Value) (l : List En) : Prop := Seqs erE ErR w v l
theorem Ents.old {w W : World} {v : Value} {l : List En} (h : Ents w v l) (o : Old w W) : Ents W v l := Seqs.old (c := erE) (R := ErR) (fun _ _ _ _ h o => ErR.old h o) h o
theorem Ents.open {w : World} {a : Option Addr} {n cap : Nat} {l : List En} (h : Ents w (.slice a n cap) l) : ∃ b off, (0 < l.length → a = some ⟨b, off, none⟩) ∧ ∀ (i : Nat) (e : En), l[i]? = some e →
    ∃ a2 c2 a3 c3, (∀ V, Old w V → V.cell? ⟨b, off + i * 4, none⟩ = some (.string e.term) ∧ V.cell? ⟨b, off + i * 4 + 1, none⟩ = some (.string e.sub) ∧ V.cell? ⟨b, off + i * 4 + 2, none⟩ = some (.slice a2 e.topics.length c2) ∧ V.cell? ⟨b, off + i * 4 + 3, none⟩ = some (.slice a3 e.sees.length c3)) ∧
      Ints w (.slice a2 e.topics.length c2) e.topics ∧ Txts w (.slice a3 e.sees.length c3) e.sees := by
  obtain ⟨b, off, ha, h⟩ := Seqs.at h
  refine ⟨b, off, ha, fun i e he => ?_⟩
  obtain ⟨⟨t, s, ⟨a2, n2, c2⟩, ⟨a3, n3, c3⟩⟩, ⟨h1, h2, h3, h4⟩, hc⟩ := h i e he
  dsimp only at h1 h2
  subst h1; subst h2
  obtain ⟨_, _, k, _, _⟩ := Ints.form h3
  obtain ⟨rfl, rfl, rfl⟩ := Value.slice.inj k
  obtain ⟨_, _, k, _, _⟩ := Txts.form h4
  obtain ⟨rfl, rfl, rfl⟩ := Value.slice.inj k
  refine ⟨a2, c2, a3, c3, fun V o => ?_, h3, h4⟩
  have g0 := hc 0 _ rfl V o
  have g1 := hc 1 _ rfl V o
  have g2 := hc 2 _ rfl V o
  have g3 := hc 3 _ rfl V o
  rw [← Nat.add_assoc] at g1 g2 g3
  exact ⟨g0, g1, g2, g3⟩
/-- a heading as it lies -/
def hdE : Enc Hd := ⟨2, fun x => [.string x.name, .int .i64 x.at'], fun _ => rfl, fun x u hu => by
  simp only [List.mem_cons, List.not_mem_nil, or_false] at hu
  rcases hu with rfl | rfl <;> rfl⟩
def grpS (f : ByteArray) : ByteArray := groupE (elsS f)
theorem infoHd : (Tryz.prog.info? 56).map (fun i => (i.zero, i.size, i.bytes)) = some (some (.agg #[.string ⟨#[]⟩, .int .i64 0]), 2, 24) := by kernel_rfl
set_option maxRecDepth 100000 in
set_option maxHeartbeats 1600000 in
theorem Headings_any (v : Value) (l : List En) (w : World) (hv : Ents w v l) (hT : Tabs w) (hl : l.length ≤ 1000000) (hs : ∀ e ∈ l, e.term.size ≤ 4194304 ∧ (foldS e.term).size ≤ 4194304) :
    Calls Tryz.prog 18 #[v] w fun e w' => (∃ u, e = .returned u ∧ OwnS hdE 56 w w' u (headK grpS l l.length)) ∧ Old w w' := by
  obtain ⟨a, cap, rfl, hc1, hc2⟩ := Seqs.form hv
  obtain ⟨b, off, ha, hat⟩ := Ents.open hv
  have Ha := Lib.hid ha
  have Hat := Lib.hid hat
  have Hs := Lib.hid hs
  clear hv ha hat hs
  go_enter Tryz.func18, Tryz.ntmps18
  go_wp2_with fail
  go_loopg [3, 10] l.length (fun c u j wr => ∃ k : Nat, j = .int .i64 k ∧ k ≤ l.length ∧ l.length - k ≤ c ∧ OwnS hdE 56 w wr u (headK grpS l k) ∧ Old w wr)
  case atStart => exact ⟨0, rfl, Nat.zero_le _, Nat.le_refl _, OwnS.nil _ _ _ _, Old.refl _⟩
  case round =>
    obtain ⟨k, rfl, hk, hc, hown, ho⟩ := hrel
    obtain ⟨au, cu, rfl, _, _⟩ := hown.form
    have HO := Lib.hid hown
    have hhl := headK_length grpS l k
    clear hown
    by_cases hlt : k < l.length
    · have hi : (k : Int) < l.length := by omega
      obtain ⟨e, he⟩ : ∃ e, l[k]? = some e := ⟨_, List.getElem?_eq_getElem hlt⟩
      obtain rfl := Ha.out (by omega)
      obtain ⟨hs1, hs2⟩ := Hs.out e (List.mem_of_getElem? he)
      obtain ⟨a2, c2, a3, c3, hcs, _, _⟩ := Hat.out k e he
      have c0 : ∀ V, Old wr V → V.cell? ⟨b, off + k * 4, none⟩ = some (.string e.term) := fun V o => (hcs V (ho.trans o)).1
      have c1 : ∀ V, Old wr V → V.cell? ⟨b, off + k * 4 + 1, none⟩ = some (.string e.sub) := fun V o => (hcs V (ho.trans o)).2.1
      have c2' : ∀ V, Old wr V → V.cell? ⟨b, off + k * 4 + 2, none⟩ = some (.slice a2 e.topics.length c2) := fun V o => (hcs V (ho.trans o)).2.2.1
      have c3' : ∀ V, Old wr V → V.cell? ⟨b, off + k * 4 + 3, none⟩ = some (.slice a3 e.sees.length c3) := fun V o => (hcs V (ho.trans o)).2.2.2
      have HF := Lib.hid (fun V (o : Old w V) => Fold_any e.term V (hT.old o) hs1)
      have HGr := Lib.hid (fun V (o : Old w V) => (Group_any (foldS e.term) V (hT.old o) hs2))
      have Hstep : Hid (headK grpS l (k + 1) = if (headK grpS l k).getLast?.map Hd.name = some (grpS (foldS e.term)) then headK grpS l k else headK grpS l k ++ [⟨grpS (foldS e.term), k⟩]) := Lib.hid (headK_snoc he)
      clear hcs he
      change Hid (∀ V, Old w V → Calls _ _ _ V fun e w' => e = .returned (.string (grpS _)) ∧ Old V w') at HGr
      generalize headK grpS l k = H at *
      generalize foldS e.term = f at *
      generalize hg : grpS f = g at *
      clear hg
      go_upto_region 5 with fail
      clear c0 c1 c2' c3'
      have oa : Old wr (wr.alloc (.cells #[.string e.term, .string e.sub, .slice a2 e.topics.length c2, .slice a3 e.sees.length c3] 45)) := (Old.refl wr).alloc _
      have d0 := later (show (wr.alloc (.cells #[.string e.term, .string e.sub, .slice a2 e.topics.length c2, .slice a3 e.sees.length c3] 45)).cell? ⟨wr.heap.size, 0, none⟩ = some (.string e.term) by simp [go_sem])
      generalize wr.alloc (.cells #[.string e.term, .string e.sub, .slice a2 e.topics.length c2, .slice a3 e.sees.length c3] 45) = wA at *
      generalize wr.heap.size = ge at *
      rcases List.eq_nil_or_concat H with h0 | ⟨tl, y, hy⟩
      · subst h0
        have Hst : Hid (headK grpS l (k + 1) = [⟨g, k⟩]) := Lib.hid (by rw [Hstep.out]; simp)
        rw [List.length_nil]
        rw [List.length_nil] at HO
        clear Hstep
        go_wp2_with (first
          | (go_at_call 51; refine (HF.out _ (ho.trans oa)).mono ?_; rintro e w3 ⟨rfl, o3⟩)
          | (go_at_call 57; refine (HGr.out _ ((ho.trans oa).trans o3)).mono ?_; rintro e w4 ⟨rfl, o4⟩; have o34 := o3.trans o4)
          | (at_builtin; go_loud (refine wpList_append_recs (c := hdE) (w0 := w) rfl _ _ 52 rfl 56 Tryz.underlying52 _ infoHd rfl (Nat.zero_lt_succ 1) _ [] [⟨g, k⟩] rfl ((HO.out.old (oa.trans o34)).alloc _) _ rfl (Recs.oneAt (c := hdE) _ 56 ⟨g, k⟩ (by simp [go_sem])) (by simp) (by simp) ((ho.trans (oa.trans o34)).alloc _) ?_); intro v5 w5 hown5 ho5 hg5))
        go_roundg (l.length - (k + 1))
        case measure => omega
        case rel => exact ⟨k + 1, by go_num, by omega, Nat.le_refl _, by rw [Hst.out]; exact hown5, ho5⟩
      · have hln : H.length = tl.length + 1 := by rw [hy]; simp
        obtain ⟨gu, rfl, _, _⟩ := OwnS.block HO.out (by omega)
        have hyl : H[tl.length]? = some y := by rw [hy]; simp
        have hcy := later ((OwnS.cell HO.out (j := 0) hyl rfl))
        rw [show tl.length * hdE.k + 0 = tl.length * 2 from rfl] at hcy
        have hcy' : ∀ V, Old wA V → V.cell? ⟨gu, tl.length * 2, none⟩ = some (.string y.name) := fun V o => hcy V (oa.trans o)
        have hgl : H.getLast?.map Hd.name = some y.name := by rw [hy]; simp
        rw [hgl] at Hstep
        have hne : (((tl.length + 1 : Nat) : Int) == 0) = false := by rw [beq_eq_false_iff_ne]; omega
        have hne' : (((tl.length : Int) + 1) == 0) = false := by rw [beq_eq_false_iff_ne]; omega
        have hw1 : IntKind.i64.wrap (tl.length : Int) = tl.length := IntWalk.i64_in _ (by omega)
        have hw2 : IntKind.i64.wrap ((tl.length : Int) + 1 - 1) = tl.length := by rw [show (tl.length : Int) + 1 - 1 = tl.length from by omega]; exact hw1
        have hHl : H.length ≤ 1000000 := by omega
        by_cases hyg : y.name = g
        · have Hst : Hid (headK grpS l (k + 1) = H) := Lib.hid (by rw [Hstep.out, if_pos (by rw [hyg])])
          have hb : (y.name.toList == g.toList) = true := by rw [str_beq]; simpa using hyg
          have hb' : (y.name.toList != g.toList) = false := by unfold bne; rw [hb]; rfl
          rw [hln]
          clear Hstep hy hyl hcy hgl hyg
          go_wp2_with (first
            | (go_at_call 51; refine (HF.out _ (ho.trans oa)).mono ?_; rintro e w3 ⟨rfl, o3⟩)
            | (go_at_call 57; refine (HGr.out _ ((ho.trans oa).trans o3)).mono ?_; rintro e w4 ⟨rfl, o4⟩; have o34 := o3.trans o4))
          have o5 := ho.trans (oa.trans o34)
          have HO5 := Lib.hid (HO.out.old (oa.trans o34))
          go_roundg (l.length - (k + 1))
          case measure => omega
          case rel => exact ⟨k + 1, by go_num, by omega, Nat.le_refl _, by rw [Hst.out, ← hln]; exact HO5.out, o5⟩
        · have Hst : Hid (headK grpS l (k + 1) = H ++ [⟨g, k⟩]) := Lib.hid (by rw [Hstep.out, if_neg (fun h => hyg (Option.some.inj h))])
          have hb : (y.name.toList == g.toList) = false := by rw [str_beq]; simpa using hyg
          have hb' : (y.name.toList != g.toList) = true := by unfold bne; rw [hb]; rfl
          rw [hln]
          rw [hln] at HO
          clear Hstep hy hyl hcy hgl hyg
          go_wp2_with (first
            | (go_at_call 51; refine (HF.out _ (ho.trans oa)).mono ?_; rintro e w3 ⟨rfl, o3⟩)
            | (go_at_call 57; refine (HGr.out _ ((ho.trans oa).trans o3)).mono ?_; rintro e w4 ⟨rfl, o4⟩; have o34 := o3.trans o4)
            | (at_builtin; go_loud (refine wpList_append_recs (c := hdE) (w0 := w) rfl _ _ 52 rfl 56 Tryz.underlying52 _ infoHd rfl (Nat.zero_lt_succ 1) _ H [⟨g, k⟩] rfl ((HO.out.old (oa.trans o34)).alloc _) _ rfl (Recs.oneAt (c := hdE) _ 56 ⟨g, k⟩ (by simp [go_sem])) (by simp; omega) (by simp; omega) ((ho.trans (oa.trans o34)).alloc _) ?_); intro v5 w5 hown5 ho5 hg5))
          go_roundg (l.length - (k + 1))
          case measure => omega
          case rel => exact ⟨k + 1, by go_num, by omega, Nat.le_refl _, by rw [Hst.out]; exact hown5, ho5⟩
    · obtain rfl : k = l.length := by omega
      have hi : ¬ (l.length : Int) < l.length := by omega
      go_wp2_with fail
      go_ret
      exact ⟨⟨_, rfl, HO.out⟩, ho⟩
end Go.Proofs.YtohngjkedhpikaaGreatDoor
/-
  KEYWORD, Q: the document's: may, has.
-/



namespace Go.Proofs.YtohngjkedhpikaaGreatDoor
open Go.RowKit
attribute [local go_sem] Old.refl Old.alloc Old.drew Old.setCell OldW.old

theorem foldS_nil : foldS noB = noB := by
  unfold foldS foldB
  rw [foldGo_end (by decide)]; rfl
theorem mayT_eq (s : ByteArray) : mayT s = ((plainAt s.data.toList 0).2 && (decide (s.size ≤ 64) && decide (¬ foldS s = noB))) := by
  unfold mayT
  by_cases h : s = noB
  · subst h; simp [foldS_nil]
  · simp only [h, not_false_eq_true, decide_true, Bool.true_and]
    cases (plainAt s.data.toList 0).2 <;> cases decide (s.size ≤ 64) <;> rfl
set_option maxRecDepth 100000 in
set_option maxHeartbeats 800000 in
theorem RMay_any (s : ByteArray) (w : World) (hs : s.size ≤ 4194304) :
    Calls Tryz.prog 106 #[.string s] w fun e w' => e = .returned (.bool (mayT s)) ∧ Old w w' := by
  have HP := Lib.hid (RPlain_any s w (by omega))
  have HF := Lib.hid (fun V => RFold_any s V hs)
  have HM := Lib.hid (mayT_eq s)
  generalize plainAt s.data.toList 0 = r at *
  obtain ⟨r1, r2⟩ := r
  generalize hf : foldS s = f at *
  generalize mayT s = M at *
  clear hf
  dsimp only at *
  cases r2 with
  | false =>
    have hM : M = false := by rw [HM.out]; simp
    subst hM
    clear HM HF
    go_enter Tryz.func106, Tryz.ntmps106
    go_wp2_with fail
    refine HP.out.mono ?_
    rintro e w1 ⟨rfl, o1⟩
    go_wp2_with fail
    go_ret
    exact ⟨rfl, o1⟩
  | true =>
    by_cases h2 : s.size ≤ 64
    · have hi : (s.size : Int) ≤ 64 := by omega
      by_cases h3 : f = noB
      · have hM : M = false := by rw [HM.out, h3]; simp
        obtain rfl : f = ⟨#[]⟩ := h3
        subst hM
        clear HM h2
        go_enter Tryz.func106, Tryz.ntmps106
        go_wp2_with fail
        refine HP.out.mono ?_
        rintro e w1 ⟨rfl, o1⟩
        go_wp2_with fail
        refine (HF.out _).mono ?_
        rintro e w2 ⟨rfl, o2⟩
        go_wp2_with fail
        go_ret
        exact ⟨rfl, o1.trans o2⟩
      · have hM : M = true := by rw [HM.out]; simp [h2, h3]
        have hn3 := str_nilK h3
        subst hM
        clear HM h2 h3
        go_enter Tryz.func106, Tryz.ntmps106
        go_wp2_with fail
        refine HP.out.mono ?_
        rintro e w1 ⟨rfl, o1⟩
        go_wp2_with fail
        refine (HF.out _).mono ?_
        rintro e w2 ⟨rfl, o2⟩
        go_wp2_with fail
        go_ret
        exact ⟨rfl, o1.trans o2⟩
    · have hi : ¬ (s.size : Int) ≤ 64 := by omega
      have hM : M = false := by rw [HM.out]; simp [h2]
      subst hM
      clear HM HF h2
      go_enter Tryz.func106, Tryz.ntmps106
      go_wp2_with fail
      refine HP.out.mono ?_
      rintro e w1 ⟨rfl, o1⟩
      go_wp2_with fail
      go_ret
      exact ⟨rfl, o1⟩
set_option maxRecDepth 100000 in
set_option maxHeartbeats 800000 in
theorem RHas_any (v : Value) (l : List En) (t : ByteArray) (w : World) (hv : Ents w v l) (hs : ∀ e ∈ l, e.term.size ≤ 4194304) :
    Calls Tryz.prog 67 #[v, .string t] w fun e w' => e = .returned (.bool (l.any fun e => decide (foldS e.term = t))) ∧ Old w w' := by
  obtain ⟨a, cap, rfl, hc1, hc2⟩ := Seqs.form hv
  obtain ⟨b, off, ha, hat⟩ := Ents.open hv
  have Ha := Lib.hid ha
  have Hat := Lib.hid hat
  have Hs := Lib.hid hs
  clear hv ha hat hs
  go_enter Tryz.func67, Tryz.ntmps67
  go_wp2_with fail
  go_loopw [8] (fun j wr => ∃ (k : Nat), j = .int .i64 k ∧ k ≤ l.length ∧ (∀ (i : Nat) (x : En), i < k → l[i]? = some x → ¬ foldS x.term = t) ∧ Old w wr) (fun j _ => l.length - (intOf j).toNat)
  case atStart => exact ⟨0, rfl, Nat.zero_le _, fun i x hi => absurd hi (Nat.not_lt_zero i), Old.refl _⟩
  case round =>
    obtain ⟨k, rfl, hk, hno, ho⟩ := hrel
    have Hno := Lib.hid hno
    clear hno
    by_cases hlt : k < l.length
    · have hi : (k : Int) < l.length := by omega
      obtain ⟨x, hx⟩ : ∃ x, l[k]? = some x := ⟨_, List.getElem?_eq_getElem hlt⟩
      obtain rfl := Ha.out (by omega)
      obtain ⟨a2, c2, a3, c3, hcs, _, _⟩ := Hat.out k x hx
      have c0 : ∀ V, Old wr V → V.cell? ⟨b, off + k * 4, none⟩ = some (.string x.term) := fun V o => (hcs V (ho.trans o)).1
      have HF := Lib.hid (fun V => RFold_any x.term V (Hs.out x (List.mem_of_getElem? hx)))
      by_cases he : foldS x.term = t
      · have hb : ((foldS x.term).toList == t.toList) = true := by rw [str_beq]; simpa using he
        have Hr : Hid ((l.any fun e => decide (foldS e.term = t)) = true) := Lib.hid (List.any_eq_true.2 ⟨x, List.mem_of_getElem? hx, by simpa using he⟩)
        clear he hx hcs
        go_wp2_with fail
        refine (HF.out _).mono ?_
        rintro e w1 ⟨rfl, o1⟩
        go_wp2_with fail
        go_ret
        exact ⟨ret_bool (by rw [Hr.out]), ho.trans o1⟩
      · have hb : ((foldS x.term).toList == t.toList) = false := by rw [str_beq]; simpa using he
        have Hn : Hid (∀ (i : Nat) (y : En), i < k + 1 → l[i]? = some y → ¬ foldS y.term = t) := Lib.hid fun i y hi hy => by
          rcases Nat.lt_or_ge i k with h | h
          · exact Hno.out i y h hy
          · obtain rfl : i = k := by omega
            obtain rfl := Option.some.inj (hx.symm.trans hy)
            exact he
        clear he hx hcs
        go_wp2_with fail
        refine (HF.out _).mono ?_
        rintro e w1 ⟨rfl, o1⟩
        have o2 := ho.trans o1
        go_wp2_with fail
        go_roundw
        case rel => exact ⟨k + 1, by go_num, by omega, Hn.out, o2⟩
        case measure => simp [intOf]; omega
    · obtain rfl : k = l.length := by omega
      have hi : ¬ (l.length : Int) < l.length := by omega
      have Hr : Hid ((l.any fun e => decide (foldS e.term = t)) = false) := Lib.hid (by
        rw [List.any_eq_false]
        intro x hx
        obtain ⟨j, hj⟩ := List.getElem?_of_mem hx
        simpa using Hno.out j x (List.getElem?_eq_some_iff.1 hj).1 hj)
      go_wp2_with fail
      go_ret
      exact ⟨ret_bool (by rw [Hr.out]), ho⟩
theorem RGrp_any (t u : ByteArray) (v2 v3 : Value) (w : World) (hs : t.size ≤ 4194304) (hf : (foldS t).size ≤ 4194304) :
    Calls Tryz.prog 19 #[.agg #[.string t, .string u, v2, v3]] w fun e w' => e = .returned (.string (grpS (foldS t))) ∧ Old w w' := by
  have HF := Lib.hid (fun V => RFold_any t V hs)
  have HG : Hid (∀ V, Calls Tryz.prog 58 #[.string (foldS t)] V fun e w' => e = .returned (.string (grpS (foldS t))) ∧ Old V w') := Lib.hid (fun V => RGroup_any (foldS t) V hf)
  have oA : Old w (w.alloc (.cells #[.string t, .string u, v2, v3] 45)) := (Old.refl w).alloc _
  generalize grpS (foldS t) = g at *
  generalize foldS t = f at *
  go_enter Tryz.func19, Tryz.ntmps19
  go_wp2_with fail
  refine (HF.out _).mono ?_
  rintro e w1 ⟨rfl, o1⟩
  go_wp2_with fail
  refine (HG.out _).mono ?_
  rintro e w2 ⟨rfl, o2⟩
  have o3 := oA.trans (o1.trans o2)
  go_wp2_with fail
  go_ret
  exact ⟨rfl, o3⟩
set_option maxRecDepth 100000 in
set_option maxHeartbeats 1600000 in
theorem RHeadings_any (v : Value) (l : List En) (w : World) (hv : Ents w v l) (hl : l.length ≤ 1000000) (hs : ∀ e ∈ l, e.term.size ≤ 4194304 ∧ (foldS e.term).size ≤ 4194304) :
    Calls Tryz.prog 27 #[v] w fun e w' => (∃ u, e = .returned u ∧ OwnS hdE 56 w w' u (headK grpS l l.length)) ∧ Old w w' := by
  obtain ⟨a, cap, rfl, hc1, hc2⟩ := Seqs.form hv
  obtain ⟨b, off, ha, hat⟩ := Ents.open hv
  have Ha := Lib.hid ha
  have Hat := Lib.hid hat
  have Hs := Lib.hid hs
  clear hv ha hat hs
  go_enter Tryz.func27, Tryz.ntmps27
  go_wp2_with fail
  go_loopg [3, 8] l.length (fun c u j wr => ∃ k : Nat, j = .int .i64 k ∧ k ≤ l.length ∧ l.length - k ≤ c ∧ OwnS hdE 56 w wr u (headK grpS l k) ∧ Old w wr)
  case atStart => exact ⟨0, rfl, Nat.zero_le _, Nat.le_refl _, OwnS.nil _ _ _ _, Old.refl _⟩
  case round =>
    obtain ⟨k, rfl, hk, hc, hown, ho⟩ := hrel
    obtain ⟨au, cu, rfl, _, _⟩ := hown.form
    have HO := Lib.hid hown
    have hhl := headK_length grpS l k
    clear hown
    by_cases hlt : k < l.length
    · have hi : (k : Int) < l.length := by omega
      obtain ⟨e, he⟩ : ∃ e, l[k]? = some e := ⟨_, List.getElem?_eq_getElem hlt⟩
      obtain rfl := Ha.out (by omega)
      obtain ⟨hs1, hs2⟩ := Hs.out e (List.mem_of_getElem? he)
      obtain ⟨a2, c2, a3, c3, hcs, _, _⟩ := Hat.out k e he
      have c0 : ∀ V, Old wr V → V.cell? ⟨b, off + k * 4, none⟩ = some (.string e.term) := fun V o => (hcs V (ho.trans o)).1
      have c1 : ∀ V, Old wr V → V.cell? ⟨b, off + k * 4 + 1, none⟩ = some (.string e.sub) := fun V o => (hcs V (ho.trans o)).2.1
      have c2' : ∀ V, Old wr V → V.cell? ⟨b, off + k * 4 + 2, none⟩ = some (.slice a2 e.topics.length c2) := fun V o => (hcs V (ho.trans o)).2.2.1
      have c3' : ∀ V, Old wr V → V.cell? ⟨b, off + k * 4 + 3, none⟩ = some (.slice a3 e.sees.length c3) := fun V o => (hcs V (ho.trans o)).2.2.2
      have HG := Lib.hid (fun v2 v3 V => RGrp_any e.term e.sub v2 v3 V hs1 hs2)
      have Hstep : Hid (headK grpS l (k + 1) = if (headK grpS l k).getLast?.map Hd.name = some (grpS (foldS e.term)) then headK grpS l k else headK grpS l k ++ [⟨grpS (foldS e.term), k⟩]) := Lib.hid (headK_snoc he)
      clear hcs he
      generalize hg : grpS (foldS e.term) = g at *
      clear hg
      cases k with
      | zero =>
        have Hst : Hid (headK grpS l (0 + 1) = [⟨g, (0 : Nat)⟩]) := Lib.hid (by rw [Hstep.out]; simp [headK])
        have HO' : Hid (OwnS hdE 56 w wr (.slice au (headK grpS l 0).length cu) []) := Lib.hid HO.out
        rw [show (headK grpS l 0).length = 0 from rfl] at HO' ⊢
        clear HO Hstep
        have HO := HO'
        clear HO'
        rw [Nat.zero_mul, Nat.add_zero] at c0 c1 c2' c3'
        go_wp2_with (first
          | (go_at_call 19; refine (HG.out _ _ _).mono ?_; rintro z w3 ⟨rfl, o3⟩)
          | (at_builtin; go_loud (refine wpList_append_recs (c := hdE) (w0 := w) rfl _ _ 52 rfl 56 Tryz.underlying52 _ infoHd rfl (Nat.zero_lt_succ 1) _ [] [⟨g, (0 : Nat)⟩] rfl ((HO.out.old o3).alloc _) _ rfl (Recs.oneAt (c := hdE) _ 56 ⟨g, (0 : Nat)⟩ (by simp [go_sem])) (by first | (simp; done) | (simp; omega)) (by first | (simp; done) | (simp; omega)) ((ho.trans o3).alloc _) ?_); intro v5 w5 hown5 ho5 hg5))
        go_roundg (l.length - (0 + 1))
        case measure => omega
        case rel => exact ⟨0 + 1, by go_num, by omega, Nat.le_refl _, by rw [Hst.out]; exact hown5, ho5⟩
      | succ n =>
        obtain ⟨e', he'⟩ : ∃ e', l[n]? = some e' := ⟨_, List.getElem?_eq_getElem (by omega)⟩
        obtain ⟨hs1', hs2'⟩ := Hs.out e' (List.mem_of_getElem? he')
        obtain ⟨x2, y2, x3, y3, hcs', _, _⟩ := Hat.out n e' he'
        have q0 : ∀ V, Old wr V → V.cell? ⟨b, off + n * 4, none⟩ = some (.string e'.term) := fun V o => (hcs' V (ho.trans o)).1
        have q1 : ∀ V, Old wr V → V.cell? ⟨b, off + n * 4 + 1, none⟩ = some (.string e'.sub) := fun V o => (hcs' V (ho.trans o)).2.1
        have q2 : ∀ V, Old wr V → V.cell? ⟨b, off + n * 4 + 2, none⟩ = some (.slice x2 e'.topics.length y2) := fun V o => (hcs' V (ho.trans o)).2.2.1
        have q3 : ∀ V, Old wr V → V.cell? ⟨b, off + n * 4 + 3, none⟩ = some (.slice x3 e'.sees.length y3) := fun V o => (hcs' V (ho.trans o)).2.2.2
        have HG2 := Lib.hid (fun v2 v3 V => RGrp_any e'.term e'.sub v2 v3 V hs1' hs2')
        have hlast := headK_last (g := grpS) he'
        rw [hlast] at Hstep
        generalize hg' : grpS (foldS e'.term) = g' at *
        generalize headK grpS l (n + 1) = H at *
        clear hlast hg' hcs' he'
        have hne : (((n + 1 : Nat) : Int) == 0) = false := by rw [beq_eq_false_iff_ne]; omega
        have hne' : (((n : Int) + 1) == 0) = false := by rw [beq_eq_false_iff_ne]; omega
        have hw1 : IntKind.i64.wrap (n : Int) = n := IntWalk.i64_in _ (by omega)
        have hw2 : IntKind.i64.wrap ((n : Int) + 1 - 1) = n := by rw [show (n : Int) + 1 - 1 = n from by omega]; exact hw1
        have hn0 : (0 : Int) ≤ n := by omega
        have hnl : (n : Int) < l.length := by omega
        by_cases hgg : g' = g
        · have Hst : Hid (headK grpS l (n + 1 + 1) = H) := Lib.hid (by rw [Hstep.out, if_pos (by rw [hgg])])
          have hb : (g.toList == g'.toList) = true := by rw [str_beq]; simpa using hgg.symm
          have hb' : (g.toList != g'.toList) = false := by unfold bne; rw [hb]; rfl
          clear Hstep hgg
          go_wp2_with (first
            | (go_at_call 19; (with_reducible refine (HG.out _ _ _).mono ?_); rintro z w3 ⟨rfl, o3⟩)
            | (go_at_call 19; (with_reducible refine (HG2.out _ _ _).mono ?_); rintro z w4 ⟨rfl, o4⟩; have o34 := o3.trans o4)
            | fail)
          have o5 := ho.trans o34
          have HO5 := Lib.hid (HO.out.old o34)
          go_roundg (l.length - (n + 1 + 1))
          case measure => omega
          case rel => exact ⟨n + 1 + 1, by go_num, by omega, Nat.le_refl _, by rw [Hst.out]; exact HO5.out, o5⟩
        · have Hst : Hid (headK grpS l (n + 1 + 1) = H ++ [⟨g, ((n + 1 : Nat) : Int)⟩]) := Lib.hid (by rw [Hstep.out, if_neg (fun h => hgg (Option.some.inj h))])
          have hb : (g.toList == g'.toList) = false := by rw [str_beq]; simpa using fun h => hgg h.symm
          have hb' : (g.toList != g'.toList) = true := by unfold bne; rw [hb]; rfl
          clear Hstep hgg
          go_wp2_with (first
            | (go_at_call 19; (with_reducible refine (HG.out _ _ _).mono ?_); rintro z w3 ⟨rfl, o3⟩)
            | (go_at_call 19; (with_reducible refine (HG2.out _ _ _).mono ?_); rintro z w4 ⟨rfl, o4⟩; have o34 := o3.trans o4)
            | (at_builtin; go_loud (refine wpList_append_recs (c := hdE) (w0 := w) rfl _ _ 52 rfl 56 Tryz.underlying52 _ infoHd rfl (Nat.zero_lt_succ 1) _ H [⟨g, ((n + 1 : Nat) : Int)⟩] rfl ((HO.out.old o34).alloc _) _ rfl (Recs.oneAt (c := hdE) _ 56 ⟨g, ((n + 1 : Nat) : Int)⟩ (by simp [go_sem])) (by first | (simp; done) | (simp; omega)) (by first | (simp; done) | (simp; omega)) ((ho.trans o34).alloc _) ?_); intro v5 w5 hown5 ho5 hg5)
            | fail)
          go_roundg (l.length - (n + 1 + 1))
          case measure => omega
          case rel => exact ⟨n + 1 + 1, by go_num, by omega, Nat.le_refl _, by rw [Hst.out]; exact hown5, ho5⟩
    · obtain rfl : k = l.length := by omega
      have hi : ¬ (l.length : Int) < l.length := by omega
      go_wp2_with fail
      go_ret
      exact ⟨⟨_, rfl, HO.out⟩, ho⟩
end Go.Proofs.YtohngjkedhpikaaGreatDoor
