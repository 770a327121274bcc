/-
  KEYWORD, FS: Starting.
-/
import Derived.Test.YtohngjkedhpikaaGreatDoorZKwF
import Derived.Test.YtohngjkedhpikaaGreatDoorZShelfP
import Derived.Test.YtohngjkedhpikaaGreatDoorZKwTw
import Derived.Test.YtohngjkedhpikaaGreatDoorZKwQ
import Derived.Test.YtohngjkedhpikaaGreatDoorZBools
import Derived.Test.YtohngjkedhpikaaGreatDoorZTextDigits
import Derived.BigRegion
import Derived.BigQuiet
import Derived.Test.YtohngjkedhpikaaGreatDoorZKwRc
import Derived.Test.YtohngjkedhpikaaGreatDoorZTextRefI
namespace Go.Proofs.YtohngjkedhpikaaGreatDoor
open Go.RowKit
attribute [local go_sem] Old.refl Old.alloc Old.drew Old.setCell OldW.old

/-- whether a text begins with another one -/
def begK (s p : ByteArray) : Bool := Lib.hasPrefix s.data.toList p.data.toList
def startK (l : List En) (t : ByteArray) : List Int := pickK (fun e => begK (foldS e.term) t) l l.length
set_option maxRecDepth 100000 in
set_option maxHeartbeats 800000 in
theorem starting1_any (e : En) (tx : ByteArray) (v2 v3 : Value) (bt : Nat) (w : World) (hT : Tabs w) (hs : e.term.size ≤ 4194304) (ht : w.cell? ⟨bt, 0, none⟩ = some (.string tx)) :
    Calls Tryz.prog 72 #[.agg #[.string e.term, .string e.sub, v2, v3], .pointer (some ⟨bt, 0, none⟩)] w fun r w' => r = .returned (.bool (begK (foldS e.term) tx)) ∧ Old w w' := by
  have oA : Old w (w.alloc (.cells #[.string e.term, .string e.sub, v2, v3] 45)) := (Old.refl w).alloc _
  have hobj := heap_alloc_new w (.cells #[.string e.term, .string e.sub, v2, v3] 45)
  have d0 := later (cells_atE (i := 0) hobj rfl)
  have dt := later (oA.cell ht)
  have HF := Lib.hid (fun V (o : Old (w.alloc (.cells #[.string e.term, .string e.sub, v2, v3] 45)) V) => Fold_any e.term V (hT.old (oA.trans o)) hs)
  have HB : Hid (∀ V, Calls Tryz.prog 73 #[.string (foldS e.term), .string tx] V fun e' w' => e' = .returned (.bool (begK (foldS e.term) tx)) ∧ Old V w') := Lib.hid fun V => (Tryz.strings_HasPrefix (foldS e.term) tx V).mono fun _ _ h => ⟨h.1, h.2 ▸ Old.refl _⟩
  generalize begK (foldS e.term) tx = r at *
  clear hobj ht
  go_enter Tryz.func72, Tryz.ntmps72
  go_upto_region 1 with fail
  generalize w.alloc (.cells #[.string e.term, .string e.sub, v2, v3] 45) = wA at *
  generalize w.heap.size = ge at *
  refine wp_region_old (Old.refl _) (by kernel_rfl) (by kernel_rfl) ?_
  repeat (go_big_quiet_step (first | with_reducible exact Calls.in_old (HF.out _ (OldW.old _)) | with_reducible exact Calls.in_old (HB.out _) | fail))
  refine wpQuiet_nil ?_
  rintro ⟨wq, hq⟩
  dsimp only
  go_wp2_with fail
  go_ret
  exact ⟨rfl, oA.trans hq⟩
set_option maxRecDepth 100000 in
set_option maxHeartbeats 1600000 in
theorem chosenS_any (v : Value) (l : List En) (tx : ByteArray) (bt : Nat) (w : World) (hv : Ents w v l) (hT : Tabs w) (hl : l.length ≤ 1000000) (hs : ∀ e ∈ l, e.term.size ≤ 4194304) (ht : w.cell? ⟨bt, 0, none⟩ = some (.string tx)) :
    Calls Tryz.prog 64 #[v, .func (.func 72) #[] #[.pointer (some ⟨bt, 0, none⟩)]] w fun e w' => (∃ u, e = .returned u ∧ OwnI 3 w w' u (pickK (fun e => begK (foldS e.term) tx) l l.length)) ∧ Old w w' := by
  obtain ⟨a, cap, rfl, hc1, hc2⟩ := Seqs.form hv
  obtain ⟨b, off, ha, hat⟩ := Ents.open hv
  have Ha := Lib.hid ha
  have Hat := Lib.hid hat
  have HC := Lib.hid (fun (e : En) (he : e ∈ l) v2 v3 V (o : Old w V) => starting1_any e tx v2 v3 bt V (hT.old o) (hs e he) (o.cell ht))
  clear hv ha hat hs ht hT
  go_enter Tryz.func64, Tryz.ntmps64
  go_wp2_with fail
  go_loopg [5, 10] l.length (fun c u j wr => ∃ k : Nat, j = .int .i64 k ∧ k ≤ l.length ∧ l.length - k ≤ c ∧ OwnI 3 w wr u (pickK (fun e => begK (foldS e.term) tx) l k) ∧ Old w wr)
  case atStart => exact ⟨0, rfl, Nat.zero_le _, Nat.le_refl _, OwnI.nil _ _ _, Old.refl _⟩
  case round =>
    obtain ⟨k, rfl, hk, hc, hown, ho⟩ := hrel
    have HO := Lib.hid hown
    have hpl := pickK_length (fun e => begK (foldS e.term) tx) l k
    clear hown
    by_cases hlt : k < l.length
    · have hi : (k : Int) < l.length := by omega
      obtain ⟨e, he⟩ : ∃ e, l[k]? = some e := ⟨_, List.getElem?_eq_getElem hlt⟩
      obtain rfl := Ha.out (by omega)
      obtain ⟨a2, c2, a3, c3, hcs, _, _⟩ := Hat.out k e he
      have c0 : ∀ V, Old wr V → V.cell? ⟨b, off + k * 4, none⟩ = some (.string e.term) := fun V o => (hcs V (ho.trans o)).1
      have c1 : ∀ V, Old wr V → V.cell? ⟨b, off + k * 4 + 1, none⟩ = some (.string e.sub) := fun V o => (hcs V (ho.trans o)).2.1
      have c2' : ∀ V, Old wr V → V.cell? ⟨b, off + k * 4 + 2, none⟩ = some (.slice a2 e.topics.length c2) := fun V o => (hcs V (ho.trans o)).2.2.1
      have c3' : ∀ V, Old wr V → V.cell? ⟨b, off + k * 4 + 3, none⟩ = some (.slice a3 e.sees.length c3) := fun V o => (hcs V (ho.trans o)).2.2.2
      have HCe := Lib.hid (fun v2 v3 V (o : Old w V) => HC.out e (List.mem_of_getElem? he) v2 v3 V o)
      have Hstep : Hid (pickK (fun e => begK (foldS e.term) tx) l (k + 1) = pickK (fun e => begK (foldS e.term) tx) l k ++ (if begK (foldS e.term) tx then [(k : Int)] else [])) := Lib.hid (pickK_snoc he)
      have oa : Old wr (wr.alloc (.cells #[.string e.term, .string e.sub, .slice a2 e.topics.length c2, .slice a3 e.sees.length c3] 45)) := (Old.refl wr).alloc _
      clear hcs he
      generalize pickK (fun e => begK (foldS e.term) tx) l k = H at *
      generalize hb : (begK (foldS e.term) tx) = r at *
      clear hb
      cases r with
      | false =>
        go_wp2_with (go_at_call 72; refine (HCe.out _ _ _ (ho.trans oa)).mono ?_; rintro z w3 ⟨rfl, o3⟩)
        have o5 := ho.trans (oa.trans o3)
        have HO5 := Lib.hid (HO.out.old (oa.trans o3))
        go_roundg (l.length - (k + 1))
        case measure => omega
        case rel => exact ⟨k + 1, by go_num, by omega, Nat.le_refl _, by rw [Hstep.out]; simpa using HO5.out, o5⟩
      | true =>
        go_wp2_with (first
          | (go_at_call 72; refine (HCe.out _ _ _ (ho.trans oa)).mono ?_; rintro z w3 ⟨rfl, o3⟩)
          | (at_builtin; go_loud (refine wpList_append_ints (w0 := w) rfl _ _ 42 rfl 3 Tryz.underlying42 infoIntF _ H [(k : Int)] rfl ((HO.out.old (oa.trans o3)).alloc _) _ rfl (Ints.one _ _ (k : Int)) (by simp; omega) ((ho.trans (oa.trans o3)).alloc _) ?_); intro v5 w5 hown5 ho5 _))
        go_roundg (l.length - (k + 1))
        case measure => omega
        case rel => exact ⟨k + 1, by go_num, by omega, Nat.le_refl _, by rw [Hstep.out]; simpa using hown5, ho5⟩
    · obtain rfl : k = l.length := by omega
      have hi : ¬ (l.length : Int) < l.length := by omega
      go_wp2_with fail
      go_ret
      exact ⟨⟨_, rfl, HO.out⟩, ho⟩
set_option maxRecDepth 100000 in
theorem Starting_any (v : Value) (l : List En) (term : ByteArray) (w : World) (hv : Ents w v l) (hT : Tabs w) (hl : l.length ≤ 1000000) (hs : ∀ e ∈ l, e.term.size ≤ 4194304) (hx : term.size ≤ 4194304) :
    Calls Tryz.prog 33 #[v, .string term] w fun e w' => (∃ u, e = .returned u ∧ Ints w' u (startK l (foldS term))) ∧ Old w w' := by
  have HF := Lib.hid (Fold_any term w hT hx)
  have HC := Lib.hid (fun bt V (o : Old w V) (h : V.cell? ⟨bt, 0, none⟩ = some (.string (foldS term))) => chosenS_any v l (foldS term) bt V (hv.old o) (hT.old o) hl hs h)
  obtain ⟨a, cap, rfl, hc1, hc2⟩ := Seqs.form hv
  clear hv hT hs
  go_enter Tryz.func33, Tryz.ntmps33
  go_upto_region 1 with fail
  go_wp2_with (first
    | (go_at_call 51; refine HF.out.mono ?_; rintro e w1 ⟨rfl, o1⟩)
    | (go_at_call 64; refine (HC.out _ _ (o1.alloc _) (by simp [go_sem])).mono ?_; rintro e w2 ⟨⟨u, rfl, hu⟩, o2⟩; have o3 := (o1.alloc (.cells #[.string (foldS term)] 9)).trans o2))
  go_ret
  exact ⟨⟨_, rfl, hu.ints⟩, o3⟩
end Go.Proofs.YtohngjkedhpikaaGreatDoor
/-
  KEYWORD, RI: the document's Rise and Topics.
-/
namespace Go.Proofs.YtohngjkedhpikaaGreatDoor
open Go.RowKit
attribute [local go_sem] Old.refl Old.alloc Old.drew Old.setCell OldW.old

theorem ix_some {l : List Int} {i : Nat} {x : Int} (h : l[i]? = some x) : ix l i = x := by unfold ix; simp [List.getD, h]
theorem infoIntRi : (Tryz.prog.info? 3).map (fun i => (i.zero, i.size, i.bytes)) = some (some (.int .i64 0), 1, 8) := by kernel_rfl
set_option maxRecDepth 100000 in
set_option maxHeartbeats 3200000 in
theorem RRise_any (v : Value) (l : List Int) (n : Int) (w : World) (hv : Ints w v l) (hl : l.length ≤ 1000000) :
    Calls Tryz.prog 71 #[v, .int .i64 n] w fun e w' => (∃ u, e = .returned u ∧ Ints w' u (riseK l n)) ∧ Old w w' := by
  have HV := Lib.hid hv
  obtain ⟨a, cap, b, off, rfl, hc1, hc2, ha, hat⟩ := hv
  have Ha := Lib.hid ha
  have Hat := Lib.hid hat
  clear ha hat
  go_enter Tryz.func71, Tryz.ntmps71
  go_wp2_with fail
  go_loopw [11] (fun j wr => ∃ (k : Nat), j = .int .i64 k ∧ k ≤ l.length ∧ (∀ (i : Nat) (x : Int), i < k → l[i]? = some x → ¬ x = n) ∧ Old w wr) (fun j _ => l.length - (intOf j).toNat)
  case atStart => exact ⟨0, rfl, Nat.zero_le _, fun i x hi => absurd hi (Nat.not_lt_zero i), Old.refl _⟩
  case round =>
    obtain ⟨k, rfl, hk, hno, ho⟩ := hrel
    have Hno := Lib.hid hno
    clear hno
    by_cases hlt : k < l.length
    · have hi : (k : Int) < l.length := by omega
      obtain ⟨x, hx⟩ : ∃ x, l[k]? = some x := ⟨_, List.getElem?_eq_getElem hlt⟩
      obtain rfl := Ha.out (by omega)
      have c0 := Hat.out k hlt wr ho
      rw [ix_some hx] at c0
      by_cases h : x = n
      · have hin : Hid (riseK l n = l) := Lib.hid (riseK_in (h ▸ List.mem_of_getElem? hx))
        subst h
        clear hx
        go_wp2_with fail
        go_ret
        exact ⟨⟨_, rfl, by rw [hin.out]; exact HV.out.old ho⟩, ho⟩
      · have Hn : Hid (∀ (i : Nat) (y : Int), i < k + 1 → l[i]? = some y → ¬ y = n) := Lib.hid fun i y hi hy => by
          rcases Nat.lt_or_ge i k with h2 | h2
          · exact Hno.out i y h2 hy
          · obtain rfl : i = k := by omega
            obtain rfl := Option.some.inj (hx.symm.trans hy)
            exact h
        clear hx
        go_wp2_with fail
        go_roundw
        case rel => exact ⟨k + 1, by go_num, by omega, Hn.out, ho⟩
        case measure => simp [intOf]; omega
    · obtain rfl : k = l.length := by omega
      have hi : ¬ (l.length : Int) < l.length := by omega
      have Hfin : Hid (riseK l n = srtStep subI l n) := Lib.hid (riseK_new fun h => by
        obtain ⟨i, hi⟩ := List.getElem?_of_mem h
        exact Hno.out i n (List.getElem?_eq_some_iff.1 hi).1 hi rfl)
      have HVr := Lib.hid (HV.out.old ho)
      have Ho := Lib.hid ho
      clear Hno HV Ha Hat ho
      go_upto_region 8 with (first
        | (at_builtin; refine wpList_append_ints (w0 := wr) rfl _ _ 42 rfl 3 Tryz.underlying42 infoIntRi (.slice none 0 0) [] l rfl (OwnI.nil _ _ _) _ rfl HVr.out (by simp; omega) (Old.refl _) ?_; intro v1 w1 hown1 ho1 hg1; clear hg1; have how := OwnI.alloc hown1 (.cells #[.int .i64 n] 3))
        | (at_builtin; refine wpList_append_int1 (w0 := wr) rfl _ _ 42 rfl 3 Tryz.underlying42 infoIntRi _ _ rfl how w1.heap.size n rfl (by simp [go_sem]) (by simp; omega) (by have := ho1.size; simp; omega) ?_; intro v3 w3 hown3 hg3))
      have ho3 : Old wr w3 := (ho1.alloc _).grown hg3 (fun k e => (World.ownsRow.lt how k e).1)
      obtain ⟨a3, c3, rfl, he1, he2⟩ := ownsRow_form hown3
      rw [List.nil_append, ← midA_end l n] at hown3 he1 ⊢
      have hml : (midA l n l.length).length = l.length + 1 := midA_length l n l.length (Nat.le_refl _)
      obtain ⟨g, rfl, hg1, hg2⟩ := hown3.block (by rw [hml]; omega)
      rw [hml] at hown3 he1 ⊢
      have hsub : IntKind.i64.wrap (((l.length + 1 : Nat) : Int) - 1) = (l.length : Int) := by rw [show ((l.length + 1 : Nat) : Int) - 1 = (l.length : Int) from by omega]; exact IntWalk.i64_in _ (by omega)
      have hsub' : IntKind.i64.wrap ((l.length : Int) + 1 - 1) = (l.length : Int) := by rw [show (l.length : Int) + 1 - 1 = (l.length : Int) from by omega]; exact IntWalk.i64_in _ (by omega)
      have HS3 := Lib.hid hown3
      clear how hown1 hown3 hg3 hg2 ho1 hml
      go_upto_region 9 with fail
      go_loopw [8] (fun kv wx => ∃ (k : Nat), kv = .int .i64 k ∧ k ≤ l.length ∧ (∀ y ∈ l.drop k, 0 < subI y n) ∧ OwnI 3 wr wx (.slice (some ⟨g, 0, none⟩) (l.length + 1) c3) (midA l n k) ∧ Old wr wx) (fun kv _ => (intOf kv).toNat)
      case atStart => exact ⟨l.length, rfl, Nat.le_refl _, fun y hy => by simp at hy, HS3.out, ho3⟩
      case round =>
        rename_i wr2
        clear HS3 ho3 hsub hsub' HVr
        obtain ⟨k, rfl, hk, hdr, hown, ho⟩ := hrel
        have Hdr := Lib.hid hdr
        have HO := Lib.hid hown
        clear hdr
        cases k with
        | zero =>
          have hk0 : ¬ (0 : Int) < ((0 : Nat) : Int) := by decide
          have Hf := Lib.hid (midA_done (c := subI) (l := l) (x := n) (k := 0) Hdr.out (fun j y e => by omega) (Nat.zero_le _))
          clear hown
          go_upto_region 9 with fail
          refine wp_region_old (Old.refl _) (by kernel_rfl) (by kernel_rfl) ?_
          repeat (go_big_quiet_step (fail))
          refine wpQuiet_nil ?_
          rintro ⟨wq, hq⟩
          dsimp only
          go_wp2_with fail
          go_ret
          exact ⟨⟨_, rfl, by rw [Hfin.out, ← Hf.out]; exact (HO.out.old hq).ints⟩, Ho.out.trans (ho.trans hq)⟩
        | succ j =>
          obtain ⟨y, hy⟩ : ∃ y, l[j]? = some y := ⟨_, List.getElem?_eq_getElem (by omega)⟩
          have hk1 : (0 : Int) < ((j + 1 : Nat) : Int) := by omega
          have hw1 : IntKind.i64.wrap (((j + 1 : Nat) : Int) - 1) = (j : Int) := by rw [show ((j + 1 : Nat) : Int) - 1 = (j : Int) from by omega]; exact IntWalk.i64_in _ (by omega)
          have hw2 : IntKind.i64.wrap ((j : Int) + 1 - 1) = (j : Int) := by rw [show (j : Int) + 1 - 1 = (j : Int) from by omega]; exact IntWalk.i64_in _ (by omega)
          have hw3 : IntKind.i64.wrap (j : Int) = (j : Int) := IntWalk.i64_in _ (by omega)
          have hml := midA_length l n (j + 1) hk
          have cy := later (hown.cell (k := j) (by rw [hml]; omega))
          have ci := later (hown.cell (k := j + 1) (by rw [hml]; omega))
          rw [ix_some (midA_prev hy)] at cy
          rw [ix_some (midA_at l n (j + 1) hk)] at ci
          have hj1 : (j : Int) < (l.length : Int) + 1 := by omega
          have hj2 : (j : Int) + 1 < (l.length : Int) + 1 := by omega
          have Hswap := Lib.hid (midA_swap (x := n) hy)
          have Hturn := Lib.hid (fun h => drop_prev (p := fun z => 0 < subI z n) hy h Hdr.out)
          have Hstop : Hid (¬ n < y → midA l n (j + 1) = srtStep subI l n) := Lib.hid fun h => midA_done (c := subI) Hdr.out (fun i z e hz => by
            obtain rfl : j = i := by omega
            obtain rfl := Option.some.inj (hy.symm.trans hz)
            unfold subI; omega) hk
          clear hown hy
          go_upto_region 9 with fail
          refine wp_region_old (Old.refl _) (by kernel_rfl) (by kernel_rfl) ?_
          repeat (go_big_quiet_step (fail))
          refine wpQuiet_nil ?_
          rintro ⟨wq, hq⟩
          dsimp only
          have HOq := Lib.hid (HO.out.old hq)
          by_cases hz : n < y
          · have cyq := fun V (o : Old wq V) => cy V (hq.trans o)
            have ciq := fun V (o : Old wq V) => ci V (hq.trans o)
            clear cy ci
            have cy0 := cyq wq (Old.refl _)
            have ci0 := ciq wq (Old.refl _)
            have fz := HOq.out.frozen
            have fj := fz j
            have fj1 := fz (j + 1)
            go_upto_region 11 with fail
            have S2 := Lib.hid ((HOq.out.stored j n).stored (j + 1) y)
            rw [Hswap.out] at S2
            have ow2 := Lib.hid (((ho.trans hq).setCell (p := ⟨g, j, none⟩) hg1 (.int .i64 n)).setCell (p := ⟨g, j + 1, none⟩) hg1 (.int .i64 y))
            go_region
            all_goals
              go_wp2_with fail
              go_roundw
              case rel => exact ⟨j, by first | rfl | go_num, by omega, Hturn.out (by unfold subI; omega), S2.out, (by first | exact ow2.out | exact ow2.out.drew)⟩
              case measure => simp [intOf]; try omega
          · go_wp2_with fail
            go_ret
            exact ⟨⟨_, rfl, by rw [Hfin.out, ← Hstop.out hz]; exact HOq.out.ints⟩, Ho.out.trans (ho.trans hq)⟩
set_option maxRecDepth 100000 in
set_option maxHeartbeats 1600000 in
theorem RTopics_any (v : Value) (l : List En) (s : ByteArray) (w : World) (hv : Ents w v l) (hs : s.size ≤ 4194304) (hU : (l.flatMap En.topics).length ≤ 900000) (hsz : ∀ e ∈ l, e.term.size ≤ 4194304) :
    Calls Tryz.prog 31 #[v, .string s] w fun e w' => (∃ u r, e = .returned u ∧ IsTops l (foldS s) r ∧ Ints w' u r) ∧ Old w w' := by
  obtain ⟨a, cap, rfl, hc1, hc2⟩ := Seqs.form hv
  obtain ⟨b, off, ha, hat⟩ := Ents.open hv
  have Ha := Lib.hid ha
  have Hat := Lib.hid hat
  have HS := Lib.hid (fun V => RFold_any s V hs)
  have Hsz := Lib.hid hsz
  have Htops := Lib.hid (topsK_tops l (foldS s))
  have Hown := Lib.hid (fun n e (h : l[n]? = some e) (he : foldS e.term = foldS s) => topsK_own h he)
  have Hskip := Lib.hid (fun n e (h : l[n]? = some e) (he : ¬ foldS e.term = foldS s) => topsK_skip h he)
  have Hbd : Hid (∀ (k : Nat) (e : En) (m : Nat), l[k]? = some e → m ≤ e.topics.length → (riseL (topsK l (foldS s) k) e.topics m).length ≤ 900000) := Lib.hid fun k e m he hm => by
    have := nodup_le (l := riseL (topsK l (foldS s) k) e.topics m) (m := l.flatMap En.topics) ((riseL_rise (topsK_rise l _ k)).imp fun h e => by omega) fun x hx => by
      rw [riseL_mem hm, topsK_mem] at hx
      rw [List.mem_flatMap]
      rcases hx with ⟨i, f, _, h1, _, h2⟩ | ⟨i, _, h1⟩
      · exact ⟨f, List.mem_of_getElem? h1, h2⟩
      · exact ⟨e, List.mem_of_getElem? he, List.mem_of_getElem? h1⟩
    omega
  have H0 : Hid (topsK l (foldS s) 0 = []) := Lib.hid rfl
  generalize foldS s = f at *
  clear hv ha hat hsz hU
  go_enter Tryz.func31, Tryz.ntmps31
  go_wp2_with fail
  go_loopw [5, 12] (fun u j wr => ∃ (k : Nat), j = .int .i64 k ∧ k ≤ l.length ∧ Ints wr u (topsK l f k) ∧ Old w wr) (fun _ j _ => l.length - (intOf j).toNat)
  case atStart => exact ⟨0, rfl, Nat.zero_le _, by rw [H0.out]; exact Ints.nil _, Old.refl _⟩
  case round =>
    rename_i u5 u12
    obtain ⟨k, rfl, hk, hI, ho⟩ := hrel
    have HI := Lib.hid hI
    by_cases hlt : k < l.length
    · have hi : (k : Int) < l.length := by omega
      obtain ⟨e, he⟩ : ∃ e, l[k]? = some e := ⟨_, List.getElem?_eq_getElem hlt⟩
      obtain ⟨a2, c2, a3, c3, hcs, hts, _⟩ := Hat.out k e he
      obtain rfl := Ha.out (by omega)
      have c0 : ∀ V, Old wr V → V.cell? ⟨b, off + k * 4, none⟩ = some (.string e.term) := fun V o => (hcs V (ho.trans o)).1
      have c1 : ∀ V, Old wr V → V.cell? ⟨b, off + k * 4 + 1, none⟩ = some (.string e.sub) := fun V o => (hcs V (ho.trans o)).2.1
      have c2' : ∀ V, Old wr V → V.cell? ⟨b, off + k * 4 + 2, none⟩ = some (.slice a2 e.topics.length c2) := fun V o => (hcs V (ho.trans o)).2.2.1
      have c3' : ∀ V, Old wr V → V.cell? ⟨b, off + k * 4 + 3, none⟩ = some (.slice a3 e.sees.length c3) := fun V o => (hcs V (ho.trans o)).2.2.2
      have hz := Hsz.out e (List.mem_of_getElem? he)
      have HF := Lib.hid (fun V => RFold_any e.term V hz)
      have Hown' := Lib.hid (fun h => Hown.out k e he h)
      have Hskip' := Lib.hid (fun h => Hskip.out k e he h)
      have Hbd' := Lib.hid (fun m hm => Hbd.out k e m he hm)
      obtain ⟨aT, capT, bT, oT, eT, hT1, hT2, haT, hatT⟩ := hts
      obtain ⟨rfl, _, rfl⟩ := Value.slice.inj eT
      have HaT := Lib.hid haT
      have HatT := Lib.hid hatT
      have ho' := Lib.hid ho
      clear hcs he eT haT hatT hI
      generalize htt : foldS e.term = t at *
      clear htt
      go_upto_region 5 with fail
      have oa : Old wr (wr.alloc (.cells #[.string e.term, .string e.sub, .slice a2 e.topics.length c2, .slice a3 e.sees.length c3] 45)) := (Old.refl wr).alloc _
      have d0 := later (show (wr.alloc (.cells #[.string e.term, .string e.sub, .slice a2 e.topics.length c2, .slice a3 e.sees.length c3] 45)).cell? ⟨wr.heap.size, 0, none⟩ = some (.string e.term) by simp [go_sem])
      have d2 := later (show (wr.alloc (.cells #[.string e.term, .string e.sub, .slice a2 e.topics.length c2, .slice a3 e.sees.length c3] 45)).cell? ⟨wr.heap.size, 2, none⟩ = some (.slice a2 e.topics.length c2) by simp [go_sem])
      generalize wr.alloc (.cells #[.string e.term, .string e.sub, .slice a2 e.topics.length c2, .slice a3 e.sees.length c3] 45) = wA at *
      generalize wr.heap.size = g at *
      clear c0 c1 c2' c3'
      by_cases ht : t = f
      · have htb := str_bnn ht
        have htq := str_eqt ht
        have Hfin := Lib.hid (Hown'.out ht)
        clear Hown' Hskip'
        go_wp2_with (first
          | (go_at_call 12; (with_reducible refine (HF.out _).mono ?_); rintro z w5 ⟨rfl, o5⟩)
          | (go_at_call 12; (with_reducible refine (HS.out _).mono ?_); rintro z w6 ⟨rfl, o6⟩; have o56 := o5.trans o6))
        have o06 := oa.trans o56
        have HI6 := Lib.hid (HI.out.old o06)
        have Ho6 := Lib.hid (ho'.out.trans o06)
        clear d0 d2 oa o06 o5 o6 o56 ho HI
        go_loopw [5, 25] (fun u j wx => ∃ (m : Nat), j = .int .i64 m ∧ m ≤ e.topics.length ∧ Ints wx u (riseL (topsK l f k) e.topics m) ∧ Old w wx) (fun _ j _ => e.topics.length - (intOf j).toNat)
        case atStart => exact ⟨0, rfl, Nat.zero_le _, HI6.out, Ho6.out⟩
        case round =>
          rename_i u5' u25 wr'
          clear HI6 Ho6
          obtain ⟨m, rfl, hm, hI, ho⟩ := hrel
          by_cases hlt2 : m < e.topics.length
          · have hm1 : (m : Int) < e.topics.length := by omega
            obtain ⟨x, hx⟩ : ∃ x, e.topics[m]? = some x := ⟨_, List.getElem?_eq_getElem hlt2⟩
            obtain rfl := HaT.out (by omega)
            have cx := HatT.out m hlt2 _ ho
            rw [ix_some hx] at cx
            have HR := Lib.hid (RRise_any _ _ x _ hI (by have := Hbd'.out m hm; omega))
            rw [← riseL_succ hx] at HR
            clear hx hI
            go_wp2_with (go_at_call 71; (with_reducible refine HR.out.mono ?_); rintro z w7 ⟨⟨u7, rfl, hu7⟩, o7⟩)
            go_roundw
            case rel => exact ⟨m + 1, by go_num, by omega, hu7, ho.trans o7⟩
            case measure => simp [intOf]; omega
          · obtain rfl : m = e.topics.length := by omega
            have hm1 : ¬ (e.topics.length : Int) < e.topics.length := by omega
            go_wp2_with fail
            go_roundw
            case rel => exact ⟨k + 1, by go_num, by omega, by rw [Hfin.out]; exact hI, ho⟩
            case measure => simp [intOf]; omega
      · have htb := str_bne ht
        have htq := str_eqf ht
        have Hfin := Lib.hid (Hskip'.out ht)
        clear Hown' Hskip' ht
        go_wp2_with (first
          | (go_at_call 12; (with_reducible refine (HF.out _).mono ?_); rintro z w5 ⟨rfl, o5⟩)
          | (go_at_call 12; (with_reducible refine (HS.out _).mono ?_); rintro z w6 ⟨rfl, o6⟩; have o56 := o5.trans o6))
        have o06 := oa.trans o56
        go_roundw
        case rel => exact ⟨k + 1, by go_num, by omega, by rw [Hfin.out]; exact HI.out.old o06, ho'.out.trans o06⟩
        case measure => simp [intOf]; omega
    · obtain rfl : k = l.length := by omega
      have hi : ¬ (l.length : Int) < l.length := by omega
      go_wp2_with fail
      go_ret
      exact ⟨⟨_, rfl, _, Htops.out, HI.out⟩, ho⟩
end Go.Proofs.YtohngjkedhpikaaGreatDoor
/-
  KEYWORD, QF: the document's Find.
-/
namespace Go.Proofs.YtohngjkedhpikaaGreatDoor
open Go.RowKit
attribute [local go_sem] Old.refl Old.alloc Old.drew Old.setCell OldW.old

def pickF (l : List En) (t : ByteArray) (sb : Bool) (n : Nat) : List Int := pickK (fun e => decide (foldS e.term = t) && ((!decide (e.sub = noB)) == sb)) l n
theorem pickF_find (l : List En) (t : ByteArray) : pickF l t false l.length = findK l t := by
  unfold pickF findK
  congr
  funext e
  cases decide (e.sub = noB) <;> cases decide (foldS e.term = t) <;> rfl
theorem pickF_under (l : List En) (t : ByteArray) : pickF l t true l.length = underK l t := by
  unfold pickF underK
  congr
  funext e
  by_cases h : e.sub = noB <;> cases decide (foldS e.term = t) <;> simp [h]
set_option maxRecDepth 100000 in
set_option maxHeartbeats 1600000 in
theorem RFind_any (v : Value) (l : List En) (term : ByteArray) (sb : Bool) (w : World) (hv : Ents w v l) (hl : l.length ≤ 1000000) (hs : ∀ e ∈ l, e.term.size ≤ 4194304) (hx : term.size ≤ 4194304) :
    Calls Tryz.prog 29 #[v, .string term, .bool sb] w fun e w' => (∃ u, e = .returned u ∧ OwnI 3 w w' u (pickF l (foldS term) sb l.length)) ∧ Old w w' := by
  obtain ⟨a, cap, rfl, hc1, hc2⟩ := Seqs.form hv
  obtain ⟨b, off, ha, hat⟩ := Ents.open hv
  have Ha := Lib.hid ha
  have Hat := Lib.hid hat
  have Hs := Lib.hid hs
  have HT := Lib.hid (fun V => RFold_any term V hx)
  clear hv ha hat hs
  generalize foldS term = t at *
  go_enter Tryz.func29, Tryz.ntmps29
  go_wp2_with fail
  go_loopg [7, 11] l.length (fun c u j wr => ∃ k : Nat, j = .int .i64 k ∧ k ≤ l.length ∧ l.length - k ≤ c ∧ OwnI 3 w wr u (pickF l t sb k) ∧ Old w wr)
  case atStart => exact ⟨0, rfl, Nat.zero_le _, Nat.le_refl _, OwnI.nil _ _ _, Old.refl _⟩
  case round =>
    obtain ⟨k, rfl, hk, hc, hown, ho⟩ := hrel
    have HO := Lib.hid hown
    have hpl : (pickF l t sb k).length ≤ k := pickK_length _ l k
    clear hown
    by_cases hlt : k < l.length
    · have hi : (k : Int) < l.length := by omega
      obtain ⟨e, he⟩ : ∃ e, l[k]? = some e := ⟨_, List.getElem?_eq_getElem hlt⟩
      obtain rfl := Ha.out (by omega)
      obtain ⟨a2, c2, a3, c3, hcs, _, _⟩ := Hat.out k e he
      have c0 : ∀ V, Old wr V → V.cell? ⟨b, off + k * 4, none⟩ = some (.string e.term) := fun V o => (hcs V (ho.trans o)).1
      have c1 : ∀ V, Old wr V → V.cell? ⟨b, off + k * 4 + 1, none⟩ = some (.string e.sub) := fun V o => (hcs V (ho.trans o)).2.1
      have HF := Lib.hid (fun V => RFold_any e.term V (Hs.out e (List.mem_of_getElem? he)))
      have Hstep : Hid (pickF l t sb (k + 1) = pickF l t sb k ++ (if decide (foldS e.term = t) && ((!decide (e.sub = noB)) == sb) then [(k : Int)] else [])) := Lib.hid (pickK_snoc he)
      have hbq := str_beq (foldS e.term) t
      clear hcs he
      generalize pickF l t sb k = H at *
      generalize foldS e.term = f at *
      by_cases hft : f = t
      · have hb : (f.toList == t.toList) = true := by rw [str_beq]; simpa using hft
        by_cases hsu : e.sub = noB
        · cases sb with
          | false =>
            have Hst : Hid (pickF l t false (k + 1) = H ++ [(k : Int)]) := Lib.hid (by rw [Hstep.out]; simp [hft, hsu])
            rw [hsu] at c1
            change ∀ V, Old wr V → V.cell? ⟨b, off + k * 4 + 1, none⟩ = some (.string ⟨#[]⟩) at c1
            clear Hstep hft hsu hbq
            go_wp2_with (first
          | (go_at_call 12; (with_reducible refine (HF.out _).mono ?_); rintro z w3 ⟨rfl, o3⟩; have d1 := fun V (o : Old w3 V) => c1 V (o3.trans o))
          | (go_at_call 12; (with_reducible refine (HT.out _).mono ?_); rintro z w4 ⟨rfl, o4⟩; have o34 := o3.trans o4; have d2 := fun V (o : Old w4 V) => d1 V (o4.trans o))
          | (at_builtin; go_loud (refine wpList_append_ints (w0 := w) rfl _ _ 42 rfl 3 Tryz.underlying42 infoIntF _ H [(k : Int)] rfl ((HO.out.old o34).alloc _) _ rfl (Ints.one _ _ (k : Int)) (by simp; omega) ((ho.trans o34).alloc _) ?_); intro v5 w5 hown5 ho5 _)
          | fail)
            go_roundg (l.length - (k + 1))
            case measure => omega
            case rel => exact ⟨k + 1, by go_num, by omega, Nat.le_refl _, by rw [Hst.out]; exact hown5, ho5⟩
          | true =>
            have Hst : Hid (pickF l t true (k + 1) = H) := Lib.hid (by rw [Hstep.out]; simp [hsu])
            rw [hsu] at c1
            change ∀ V, Old wr V → V.cell? ⟨b, off + k * 4 + 1, none⟩ = some (.string ⟨#[]⟩) at c1
            clear Hstep hft hsu hbq
            go_wp2_with (first
          | (go_at_call 12; (with_reducible refine (HF.out _).mono ?_); rintro z w3 ⟨rfl, o3⟩; have d1 := fun V (o : Old w3 V) => c1 V (o3.trans o))
          | (go_at_call 12; (with_reducible refine (HT.out _).mono ?_); rintro z w4 ⟨rfl, o4⟩; have o34 := o3.trans o4; have d2 := fun V (o : Old w4 V) => d1 V (o4.trans o))
          | fail)
            have o5 := ho.trans o34
            have HO5 := Lib.hid (HO.out.old o34)
            go_roundg (l.length - (k + 1))
            case measure => omega
            case rel => exact ⟨k + 1, by go_num, by omega, Nat.le_refl _, by rw [Hst.out]; exact HO5.out, o5⟩
        · have hn := str_nilK hsu
          cases sb with
          | false =>
            have Hst : Hid (pickF l t false (k + 1) = H) := Lib.hid (by rw [Hstep.out]; simp [hsu])
            clear Hstep hft hsu hbq
            go_wp2_with (first
          | (go_at_call 12; (with_reducible refine (HF.out _).mono ?_); rintro z w3 ⟨rfl, o3⟩; have d1 := fun V (o : Old w3 V) => c1 V (o3.trans o))
          | (go_at_call 12; (with_reducible refine (HT.out _).mono ?_); rintro z w4 ⟨rfl, o4⟩; have o34 := o3.trans o4; have d2 := fun V (o : Old w4 V) => d1 V (o4.trans o))
          | fail)
            have o5 := ho.trans o34
            have HO5 := Lib.hid (HO.out.old o34)
            go_roundg (l.length - (k + 1))
            case measure => omega
            case rel => exact ⟨k + 1, by go_num, by omega, Nat.le_refl _, by rw [Hst.out]; exact HO5.out, o5⟩
          | true =>
            have Hst : Hid (pickF l t true (k + 1) = H ++ [(k : Int)]) := Lib.hid (by rw [Hstep.out]; simp [hft, hsu])
            clear Hstep hft hsu hbq
            go_wp2_with (first
          | (go_at_call 12; (with_reducible refine (HF.out _).mono ?_); rintro z w3 ⟨rfl, o3⟩; have d1 := fun V (o : Old w3 V) => c1 V (o3.trans o))
          | (go_at_call 12; (with_reducible refine (HT.out _).mono ?_); rintro z w4 ⟨rfl, o4⟩; have o34 := o3.trans o4; have d2 := fun V (o : Old w4 V) => d1 V (o4.trans o))
          | (at_builtin; go_loud (refine wpList_append_ints (w0 := w) rfl _ _ 42 rfl 3 Tryz.underlying42 infoIntF _ H [(k : Int)] rfl ((HO.out.old o34).alloc _) _ rfl (Ints.one _ _ (k : Int)) (by simp; omega) ((ho.trans o34).alloc _) ?_); intro v5 w5 hown5 ho5 _)
          | fail)
            go_roundg (l.length - (k + 1))
            case measure => omega
            case rel => exact ⟨k + 1, by go_num, by omega, Nat.le_refl _, by rw [Hst.out]; exact hown5, ho5⟩
      · have hb : (f.toList == t.toList) = false := by rw [str_beq]; simpa using hft
        have Hst : Hid (pickF l t sb (k + 1) = H) := Lib.hid (by rw [Hstep.out]; simp [hft])
        clear Hstep hft hbq
        go_wp2_with (first
          | (go_at_call 12; (with_reducible refine (HF.out _).mono ?_); rintro z w3 ⟨rfl, o3⟩; have d1 := fun V (o : Old w3 V) => c1 V (o3.trans o))
          | (go_at_call 12; (with_reducible refine (HT.out _).mono ?_); rintro z w4 ⟨rfl, o4⟩; have o34 := o3.trans o4; have d2 := fun V (o : Old w4 V) => d1 V (o4.trans o))
          | fail)
        have o5 := ho.trans o34
        have HO5 := Lib.hid (HO.out.old o34)
        go_roundg (l.length - (k + 1))
        case measure => omega
        case rel => exact ⟨k + 1, by go_num, by omega, Nat.le_refl _, by rw [Hst.out]; exact HO5.out, o5⟩
    · obtain rfl : k = l.length := by omega
      have hi : ¬ (l.length : Int) < l.length := by omega
      go_wp2_with fail
      go_ret
      exact ⟨⟨_, rfl, HO.out⟩, ho⟩
end Go.Proofs.YtohngjkedhpikaaGreatDoor
/-
  KEYWORD, RF: the document's Follow and Starting.
-/
namespace Go.Proofs.YtohngjkedhpikaaGreatDoor
open Go.RowKit Go.Maps
attribute [local go_sem] Old.refl Old.alloc Old.drew Old.setCell OldW.old

theorem infoIntRi2 : (Tryz.prog.info? 3).map (fun i => (i.zero, i.size, i.bytes)) = some (some (.int .i64 0), 1, 8) := by kernel_rfl
def neB (a : ByteArray) (x : ByteArray) : Bool := decide (¬ x = a)
theorem filter_takeB {p : ByteArray → Bool} {l : List ByteArray} {k : Nat} {x : ByteArray} (h : l[k]? = some x) : (l.take (k + 1)).filter p = (l.take k).filter p ++ if p x = true then [x] else [] := by
  rw [List.take_add_one, h, List.filter_append]
  congr 1
  simp [List.filter_cons]
set_option maxRecDepth 100000 in
set_option maxHeartbeats 6400000 in
theorem RFollow_any (v : Value) (l : List En) (s : ByteArray) (w : World) (hv : Ents w v l) (hU : (l.flatMap En.sees).length ≤ 900000) (hs : s.size ≤ 4194304)
    (hsz : ∀ e ∈ l, e.term.size ≤ 4194304 ∧ (foldS e.term).size ≤ 4194304 ∧ ∀ x ∈ e.sees, x.size ≤ 4194304 ∧ (foldS x).size ≤ 4194304) :
    Calls Tryz.prog 32 #[v, .string s] w fun e w' => (∃ u r, e = .returned u ∧ IsFollow (edgeL l) (foldS s) r ∧ Txts w' u r) ∧ Old w w' := by
  obtain ⟨sa, cap, rfl, hc1, hc2⟩ := Seqs.form hv
  have HF := Lib.hid (RFold_any s w hs)
  have HR := Lib.hid (fun V (o : Old w V) => RReach_any _ l (foldS s) V (hv.old o) (by omega) hsz)
  obtain ⟨U, hUe⟩ : ∃ U, (l.flatMap En.sees).map foldS = U := ⟨_, rfl⟩
  have hUl : U.length ≤ 900000 := by rw [← hUe, List.length_map]; omega
  have Hbd : Hid (∀ O, IsReach (edgeL l) (foldS s) O → O.length ≤ 900000 ∧ ∀ x ∈ O, x.size ≤ 4194304) := Lib.hid fun O h => by
    have hin : ∀ x ∈ O, x ∈ U := fun x hx => by
      obtain ⟨c, h1, h2⟩ := (h.2 x).1 hx
      have key : ∀ y z, edgeL l y z → z ∈ U := fun y z ⟨e, he, _, _, u, hu, hz⟩ => by
        rw [← hUe]
        exact List.mem_map.2 ⟨u, List.mem_flatMap.2 ⟨e, he, hu⟩, hz⟩
      cases h2 with
      | refl => exact key _ _ h1
      | step _ he => exact key _ _ he
    refine ⟨Nat.le_trans (nodup_le h.1 hin) hUl, fun x hx => ?_⟩
    have := hin x hx
    rw [← hUe] at this
    obtain ⟨y, hy, rfl⟩ := List.mem_map.1 this
    obtain ⟨e, he, hy⟩ := List.mem_flatMap.1 hy
    exact ((hsz e he).2.2 y hy).2
  have Hfol : Hid (∀ O, IsReach (edgeL l) (foldS s) O → IsFollow (edgeL l) (foldS s) (srt compareT (O.filter (neB (foldS s))))) := Lib.hid fun O h => h.follow
  generalize edgeL l = E at *
  generalize foldS s = a at *
  clear hv hsz hU hUe
  go_enter Tryz.func32, Tryz.ntmps32
  go_upto_region 4 with (first
    | (go_at_call 12; (with_reducible refine HF.out.mono ?_); rintro z w1 ⟨rfl, o1⟩)
    | (go_at_call 68; (with_reducible refine (HR.out _ o1).mono ?_); rintro z w2 ⟨⟨u2, O, rfl, hO, hown2⟩, o2⟩; obtain ⟨a2, c2, rfl, hb1, hb2⟩ := hown2.form))
  obtain ⟨hOl, hOs⟩ := Hbd.out O hO
  have Hfin := Lib.hid (Hfol.out O hO)
  have HOs := Lib.hid hOs
  have o12 := o1.trans o2
  obtain ⟨bt, ot, hat3, htx⟩ := (Txts.of_recs hown2.recs).at1
  have Hat3 := Lib.hid hat3
  have Htx := Lib.hid htx
  clear hO hOs hown2 hat3 htx Hbd Hfol HR HF o1 o2
  go_loopw [6, 16] (fun o jv wx => ∃ i : Nat, jv = .int .i64 i ∧ i ≤ O.length ∧ OwnS txE 9 w2 wx o (srt compareT ((O.take i).filter (neB a))) ∧ Old w2 wx) (fun _ jv _ => O.length - (intOf jv).toNat)
  case atStart => exact ⟨0, rfl, Nat.zero_le _, OwnS.nil _ _ _ _, Old.refl _⟩
  case round =>
    obtain ⟨i, rfl, hi, hown, ho⟩ := hrel
    have HO := Lib.hid hown
    have hlen : (srt compareT ((O.take i).filter (neB a))).length ≤ i := by
      rw [srt_length]
      refine Nat.le_trans (List.length_filter_le _ _) ?_
      rw [List.length_take]; omega
    clear hown
    by_cases hlt : i < O.length
    · have hi1 : (i : Int) < O.length := by omega
      obtain ⟨x, hx⟩ : ∃ x, O[i]? = some x := ⟨_, List.getElem?_eq_getElem hlt⟩
      obtain rfl := Hat3.out (by omega)
      have ck := Htx.out i x hx wr ho
      have hxs := HOs.out x (List.mem_of_getElem? hx)
      have hstep := filter_takeB (p := neB a) hx
      have Hss : Hid (∀ y ∈ srt compareT ((O.take i).filter (neB a)), y.size ≤ 4194304) := Lib.hid fun y hy => HOs.out y (List.mem_of_mem_take (List.mem_filter.1 (srt_mem.1 hy)).1)
      by_cases hxa : x = a
      · have hb : (x.toList == a.toList) = true := by rw [str_beq]; simpa using hxa
        have Hst : Hid (srt compareT ((O.take (i + 1)).filter (neB a)) = srt compareT ((O.take i).filter (neB a))) := Lib.hid (by rw [hstep, neB, if_neg (by simp [hxa]), List.append_nil])
        clear hstep hx hxa
        go_wp2_with fail
        go_roundw
        case rel => exact ⟨i + 1, by go_num, by omega, by rw [Hst.out]; exact HO.out, ho⟩
        case measure => simp [intOf]; omega
      · have hb : (x.toList == a.toList) = false := by rw [str_beq]; simpa using hxa
        have Hst : Hid (srt compareT ((O.take (i + 1)).filter (neB a)) = srtStep compareT (srt compareT ((O.take i).filter (neB a))) x) := Lib.hid (by rw [hstep, neB, if_pos (by simp [hxa]), srt_snoc])
        clear hstep hx hxa
        generalize srt compareT ((O.take i).filter (neB a)) = l0 at *
        obtain ⟨a3, c3, rfl, hd1, hd2⟩ := HO.out.form
        have hos := ho.size
        go_upto_region 8 with (at_builtin; go_loud (refine wpList_append_at (c := txE) (w0 := w2) rfl _ _ 43 rfl 9 Tryz.underlying43 (.string ⟨#[]⟩) infoStrK rfl (Nat.zero_lt_succ 0) (.slice a3 l0.length c3) l0 [x] rfl (HO.out.old ((Old.refl wr).alloc _)) _ rfl (Recs.oneAt (c := txE) wr 9 x rfl) (Nat.zero_lt_succ 0) (by simp; omega) (by simp; omega) (by simp; omega) ?_); intro g c6 w3 hown3 hg3 hat3 hlt3)
        have ho3 : Old w2 w3 := (ho.alloc _).grown hg3 (fun k e => (World.ownsRow.lt HO.out k e).1)
        have hg1 : w2.heap.size ≤ g := (World.ownsRow.lt hown3 g rfl).1
        rw [← midA_end l0 x] at hown3
        have hml : l0.length + [x].length = l0.length + 1 := rfl
        rw [hml] at hown3
        have HS3 := Lib.hid hown3
        have hsub : IntKind.i64.wrap (((l0.length + 1 : Nat) : Int) - 1) = (l0.length : Int) := by rw [show ((l0.length + 1 : Nat) : Int) - 1 = (l0.length : Int) from by omega]; exact IntWalk.i64_in _ (by omega)
        have hsub' : IntKind.i64.wrap ((l0.length : Int) + 1 - 1) = (l0.length : Int) := by rw [show (l0.length : Int) + 1 - 1 = (l0.length : Int) from by omega]; exact IntWalk.i64_in _ (by omega)
        have hb3 := HS3.out.form
        obtain ⟨_, _, hb4, hb5, hb6⟩ := hb3
        clear hown3 hg3 hat3 hlt3 hml hd1 hd2 hos hb4 hb5 hb6
        go_upto_region 9 with fail
        go_loopw [9] (fun kv wx => ∃ (k : Nat), kv = .int .i64 k ∧ k ≤ l0.length ∧ (∀ y ∈ l0.drop k, 0 < compareT y x) ∧ OwnS txE 9 w2 wx (.slice (some ⟨g, 0, none⟩) (l0.length + 1) c6) (midA l0 x k) ∧ Old w2 wx) (fun kv _ => (intOf kv).toNat)
        case atStart => exact ⟨l0.length, rfl, Nat.le_refl _, fun y hy => by simp at hy, HS3.out, ho3⟩
        case round =>
          rename_i wr2
          clear HS3 ho3 hsub hsub' HO
          obtain ⟨k, rfl, hk, hdr, hown, hoo⟩ := hrel
          have Hdr := Lib.hid hdr
          have HO := Lib.hid hown
          clear hdr
          cases k with
          | zero =>
            have hk0 : ¬ (0 : Int) < ((0 : Nat) : Int) := by decide
            have Hf := Lib.hid (midA_done (c := compareT) (l := l0) (x := x) (k := 0) Hdr.out (fun j y e => by omega) (Nat.zero_le _))
            clear hown
            go_upto_region 9 with fail
            refine wp_region_old (Old.refl _) (by kernel_rfl) (by kernel_rfl) ?_
            repeat (go_big_quiet_step (fail))
            refine wpQuiet_nil ?_
            rintro ⟨wq, hq⟩
            dsimp only
            go_wp2_with fail
            go_roundw
            case rel => exact ⟨i + 1, by go_num, by omega, by rw [Hst.out, ← Hf.out]; exact HO.out.old hq, hoo.trans hq⟩
            case measure => simp [intOf]; omega
          | succ j =>
            obtain ⟨y, hy⟩ : ∃ y, l0[j]? = some y := ⟨_, List.getElem?_eq_getElem (by omega)⟩
            have hys := Hss.out y (List.mem_of_getElem? hy)
            have hk1 : (0 : Int) < ((j + 1 : Nat) : Int) := by omega
            have hw1 : IntKind.i64.wrap (((j + 1 : Nat) : Int) - 1) = (j : Int) := by rw [show ((j + 1 : Nat) : Int) - 1 = (j : Int) from by omega]; exact IntWalk.i64_in _ (by omega)
            have hw2 : IntKind.i64.wrap ((j : Int) + 1 - 1) = (j : Int) := by rw [show (j : Int) + 1 - 1 = (j : Int) from by omega]; exact IntWalk.i64_in _ (by omega)
            have hw3 : IntKind.i64.wrap (j : Int) = (j : Int) := IntWalk.i64_in _ (by omega)
            have cy := later (tx_cell hown (midA_prev (x := x) hy))
            have ci := later (tx_cell hown (midA_at l0 x (j + 1) hk))
            have hj1 : (j : Int) < (l0.length : Int) + 1 := by omega
            have hj2 : (j : Int) + 1 < (l0.length : Int) + 1 := by omega
            have Hswap := Lib.hid (midA_swap (x := x) hy)
            have Hyj := Lib.hid (midA_prev (x := x) hy)
            have Hturn := Lib.hid (fun h => drop_prev (p := fun z => 0 < compareT z x) hy h Hdr.out)
            have Hstop : Hid (¬ 0 < compareT y x → midA l0 x (j + 1) = srtStep compareT l0 x) := Lib.hid fun h => midA_done (c := compareT) Hdr.out (fun i z e hz => by
              obtain rfl : j = i := by omega
              obtain rfl := Option.some.inj (hy.symm.trans hz)
              exact h) hk
            have HC := Lib.hid (fun V => RCompare_any y x V hys hxs)
            clear hown hy
            generalize compareT y x = cz at *
            go_upto_region 9 with fail
            refine wp_region_old (Old.refl _) (by kernel_rfl) (by kernel_rfl) ?_
            repeat (go_big_quiet_step (with_reducible exact Calls.in_old (HC.out _)))
            refine wpQuiet_nil ?_
            rintro ⟨wq, hq⟩
            dsimp only
            have HOq := Lib.hid (HO.out.old hq)
            by_cases hz : 0 < cz
            · have cyq := fun V (o : Old wq V) => cy V (hq.trans o)
              have ciq := fun V (o : Old wq V) => ci V (hq.trans o)
              clear cy ci
              have cy0 := cyq wq (Old.refl _)
              have ci0 := ciq wq (Old.refl _)
              have fz := HOq.out.frozen
              have fj := fz j
              have fj1 := fz (j + 1)
              go_upto_region 11 with fail
              have S1 := Lib.hid (tx_stored HOq.out x Hyj.out)
              have S2 := Lib.hid (tx_stored S1.out (i := j + 1) y (by rw [List.getElem?_set_ne (by omega)]; exact midA_at l0 x (j + 1) hk))
              rw [Hswap.out] at S2
              have ow2 := Lib.hid (((hoo.trans hq).setCell (p := ⟨g, j, none⟩) hg1 (.string x)).setCell (p := ⟨g, j + 1, none⟩) hg1 (.string y))
              go_region
              all_goals
                go_wp2_with fail
                go_roundw
                case rel => exact ⟨j, by first | rfl | go_num, by omega, Hturn.out hz, S2.out, (by first | exact ow2.out | exact ow2.out.drew)⟩
                case measure => simp [intOf]; try omega
            · go_wp2_with fail
              go_roundw
              case rel => exact ⟨i + 1, by go_num, by omega, by rw [Hst.out, ← Hstop.out hz]; exact HOq.out, hoo.trans hq⟩
              case measure => simp [intOf]; omega
    · obtain rfl : i = O.length := by omega
      have hi1 : ¬ (O.length : Int) < O.length := by omega
      rw [List.take_length] at HO
      go_wp2_with fail
      go_ret
      exact ⟨⟨_, rfl, _, Hfin.out, Txts.of_recs HO.out.recs⟩, o12.trans ho⟩
theorem begK_eq (s p : ByteArray) : decide (p.size ≤ s.size ∧ s.extract 0 p.size = p) = begK s p := by
  unfold begK
  rw [← Lib.hasPrefix_of_take, Bool.eq_iff_iff, Bool.and_eq_true, decide_eq_true_iff, decide_eq_true_iff, beq_iff_eq]
  have e1 : s.data.toList.length = s.size := Array.length_toList
  have e2 : p.data.toList.length = p.size := Array.length_toList
  have e3 : (s.extract 0 p.size).data.toList = s.data.toList.take p.size := by
    rw [ByteArray.data_extract, Array.toList_extract, List.extract_eq_take_drop]
    simp
  rw [e1, e2]
  constructor
  · rintro ⟨h1, h2⟩; exact ⟨h1, by rw [← e3, h2]⟩
  · rintro ⟨h1, h2⟩; exact ⟨h1, str_inj (e3.trans h2)⟩
set_option maxHeartbeats 800000 in
theorem RBegins9_any (s p : ByteArray) (w : World) :
    Calls Tryz.prog 74 #[.string s, .string p] w fun e w' => e = .returned (.bool (decide (p.size ≤ s.size ∧ s.extract 0 p.size = p))) ∧ w = w' := by
  by_cases h : p.size ≤ s.size
  · have hi : (p.size : Int) ≤ s.size := by omega
    have hb := str_beq (s.extract 0 p.size) p
    have hd : decide (p.size ≤ s.size ∧ s.extract 0 p.size = p) = decide (s.extract 0 p.size = p) := by simp [h]
    rw [hd]
    clear hd
    generalize decide (s.extract 0 p.size = p) = b at *
    go_enter Tryz.func74, Tryz.ntmps74
    go_wp2_with fail
    go_ret
    exact ⟨rfl, rfl⟩
  · have hi : ¬ (p.size : Int) ≤ s.size := by omega
    have hd : decide (p.size ≤ s.size ∧ s.extract 0 p.size = p) = false := by simp [h]
    rw [hd]
    clear hd
    go_enter Tryz.func74, Tryz.ntmps74
    go_wp2_with fail
    go_ret
    exact ⟨rfl, rfl⟩
set_option maxRecDepth 100000 in
set_option maxHeartbeats 1600000 in
theorem RStarting_any (v : Value) (l : List En) (term : ByteArray) (w : World) (hv : Ents w v l) (hl : l.length ≤ 1000000) (hs : ∀ e ∈ l, e.term.size ≤ 4194304) (hx : term.size ≤ 4194304) :
    Calls Tryz.prog 34 #[v, .string term] w fun e w' => (∃ u, e = .returned u ∧ Ints w' u (startK l (foldS term))) ∧ Old w w' := by
  obtain ⟨a, cap, rfl, hc1, hc2⟩ := Seqs.form hv
  obtain ⟨b, off, ha, hat⟩ := Ents.open hv
  have Ha := Lib.hid ha
  have Hat := Lib.hid hat
  have Hs := Lib.hid hs
  have HT := Lib.hid (fun V => RFold_any term V hx)
  clear hv ha hat hs
  unfold startK
  generalize foldS term = t at *
  go_enter Tryz.func34, Tryz.ntmps34
  go_wp2_with fail
  go_loopw [5, 9] (fun u j wr => ∃ k : Nat, j = .int .i64 k ∧ k ≤ l.length ∧ OwnI 3 w wr u (pickK (fun e => begK (foldS e.term) t) l k) ∧ Old w wr) (fun _ j _ => l.length - (intOf j).toNat)
  case atStart => exact ⟨0, rfl, Nat.zero_le _, OwnI.nil _ _ _, Old.refl _⟩
  case round =>
    obtain ⟨k, rfl, hk, hown, ho⟩ := hrel
    have HO := Lib.hid hown
    have hpl : (pickK (fun e => begK (foldS e.term) t) l k).length ≤ k := pickK_length _ l k
    clear hown
    by_cases hlt : k < l.length
    · have hi : (k : Int) < l.length := by omega
      obtain ⟨e, he⟩ : ∃ e, l[k]? = some e := ⟨_, List.getElem?_eq_getElem hlt⟩
      obtain rfl := Ha.out (by omega)
      obtain ⟨a2, c2, a3, c3, hcs, _, _⟩ := Hat.out k e he
      have c0 : ∀ V, Old wr V → V.cell? ⟨b, off + k * 4, none⟩ = some (.string e.term) := fun V o => (hcs V (ho.trans o)).1
      have HF := Lib.hid (fun V => RFold_any e.term V (Hs.out e (List.mem_of_getElem? he)))
      have Hstep := Lib.hid (pickK_snoc (p := fun e => begK (foldS e.term) t) he)
      have HB := Lib.hid (fun V => RBegins9_any (foldS e.term) t V)
      clear hcs he
      generalize pickK (fun e => begK (foldS e.term) t) l k = H at *
      generalize foldS e.term = f at *
      rw [begK_eq] at HB
      cases hb : begK f t with
      | true =>
        rw [hb] at HB
        rw [hb, if_pos rfl] at Hstep
        obtain ⟨a5, c5, rfl, hd1, hd2⟩ := ownsRow_form HO.out
        go_wp2_with (first
          | (go_at_call 12; (with_reducible refine (HF.out _).mono ?_); rintro z w5 ⟨rfl, o5⟩)
          | (go_at_call 12; (with_reducible refine (HT.out _).mono ?_); rintro z w6 ⟨rfl, o6⟩; have HO6 := Lib.hid (HO.out.old (o5.trans o6)); have ho6 := ho.trans (o5.trans o6))
          | (go_at_call 74; (with_reducible refine (HB.out _).mono ?_); rintro z w7 ⟨rfl, rfl⟩; have how := OwnI.alloc HO6.out (.cells #[.int .i64 (k : Int)] 3))
          | (at_builtin; go_loud (refine wpList_append_int1 (w0 := w) rfl _ _ 42 rfl 3 Tryz.underlying42 infoIntRi2 _ _ rfl how w6.heap.size k rfl (by simp [go_sem]) (by omega) (by have := ho6.size; simp; omega) ?_); intro v8 w8 hown8 hg8; have ho8 := (ho6.alloc _).grown hg8 (fun k e => (World.ownsRow.lt how k e).1); rw [← Hstep.out] at hown8))
        go_roundw
        case rel => exact ⟨k + 1, by go_num, by omega, hown8, ho8⟩
        case measure => simp [intOf]; omega
      | false =>
        rw [hb] at HB
        rw [hb, if_neg (by decide), List.append_nil] at Hstep
        go_wp2_with (first
          | (go_at_call 12; (with_reducible refine (HF.out _).mono ?_); rintro z w5 ⟨rfl, o5⟩)
          | (go_at_call 12; (with_reducible refine (HT.out _).mono ?_); rintro z w6 ⟨rfl, o6⟩; have HO6 := Lib.hid (HO.out.old (o5.trans o6)); have ho6 := ho.trans (o5.trans o6))
          | (go_at_call 74; (with_reducible refine (HB.out _).mono ?_); rintro z w7 ⟨rfl, rfl⟩))
        go_roundw
        case rel => exact ⟨k + 1, by go_num, by omega, by rw [Hstep.out]; exact HO6.out, ho6⟩
        case measure => simp [intOf]; omega
    · obtain rfl : k = l.length := by omega
      have hi : ¬ (l.length : Int) < l.length := by omega
      go_wp2_with fail
      go_ret
      exact ⟨⟨_, rfl, HO.out.ints⟩, ho⟩
end Go.Proofs.YtohngjkedhpikaaGreatDoor
