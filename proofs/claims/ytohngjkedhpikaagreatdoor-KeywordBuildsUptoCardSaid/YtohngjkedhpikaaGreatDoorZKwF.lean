/-
  KEYWORD, F: what is found: Find, Under.
-/
import Derived.Test.YtohngjkedhpikaaGreatDoorZKwQ
import Derived.BigQuiet
namespace Go.Proofs.YtohngjkedhpikaaGreatDoor
open Go.RowKit
attribute [local go_sem] Old.refl Old.alloc Old.drew Old.setCell OldW.old

theorem cells_atE {w : World} {g : Nat} {cs : Array Value} {T : TypeId} {fr : Nat × Nat} (h : w.heap[g]? = some (.cells cs T fr)) {i : Nat} {v : Value} (hi : cs[i]? = some v) : w.cell? ⟨g, i, none⟩ = some v := by
  obtain ⟨a, b⟩ := fr
  rw [cell_of_row w g i cs T (a, b) h]; exact hi
set_option maxRecDepth 100000 in
set_option maxHeartbeats 800000 in
theorem find1_any (e : En) (tx : ByteArray) (v2 v3 : Value) (bt : Nat) (w : World) (hT : Tabs w) (hs : e.term.size ≤ 4194304) (ht : w.cell? ⟨bt, 0, none⟩ = some (.string tx)) :
    Calls Tryz.prog 65 #[.agg #[.string e.term, .string e.sub, v2, v3], .pointer (some ⟨bt, 0, none⟩)] w fun r w' => r = .returned (.bool (decide (e.sub = noB) && decide (foldS e.term = tx))) ∧ Old w w' := by
  have oA : Old w (w.alloc (.cells #[.string e.term, .string e.sub, v2, v3] 45)) := (Old.refl w).alloc _
  have hobj := heap_alloc_new w (.cells #[.string e.term, .string e.sub, v2, v3] 45)
  have d0 := later (cells_atE (i := 0) hobj rfl)
  have d1 := later (cells_atE (i := 1) hobj rfl)
  have dt := later (oA.cell ht)
  have HF := Lib.hid (fun V (o : Old (w.alloc (.cells #[.string e.term, .string e.sub, v2, v3] 45)) V) => Fold_any e.term V (hT.old (oA.trans o)) hs)
  have Hs := Lib.hid (str_beq (foldS e.term) tx)
  clear hobj ht
  go_enter Tryz.func65, Tryz.ntmps65
  go_upto_region 1 with fail
  generalize w.alloc (.cells #[.string e.term, .string e.sub, v2, v3] 45) = wA at *
  generalize w.heap.size = ge at *
  have HdN : ∀ nq, Old wA (wA.drewN nq) := fun nq => ⟨rfl, rfl, rfl, Nat.le_refl _, fun _ _ => rfl⟩
  by_cases h : e.sub = noB
  · have HR : Hid ((decide (e.sub = noB) && decide (foldS e.term = tx)) = decide (foldS e.term = tx)) := Lib.hid (by rw [h]; simp)
    have d1' : ∀ V, Old wA V → V.cell? ⟨ge, 1, none⟩ = some (.string ⟨#[]⟩) := by rw [show (⟨#[]⟩ : ByteArray) = e.sub from h.symm]; exact d1
    clear h d1
    refine wp_region_old (Old.refl _) (by kernel_rfl) (by kernel_rfl) ?_
    repeat (go_big_quiet_step (first | with_reducible exact Calls.in_old (HF.out _ (OldW.old _)) | fail))
    refine wpQuiet_nil ?_
    rintro ⟨wq, hq⟩
    dsimp only
    go_wp2_with fail
    go_ret
    exact ⟨ret_bool (by rw [HR.out]; exact Hs.out), oA.trans hq⟩
  · have HR : Hid ((decide (e.sub = noB) && decide (foldS e.term = tx)) = false) := Lib.hid (by simp [h])
    have hn := str_nilK h
    clear h
    go_quiet (fail)
    go_wp2_with fail
    go_ret
    exact ⟨ret_bool (by rw [HR.out]), oA.trans (HdN _)⟩
set_option maxRecDepth 100000 in
set_option maxHeartbeats 800000 in
theorem under1_any (e : En) (tx : ByteArray) (v2 v3 : Value) (bt : Nat) (w : World) (hT : Tabs w) (hs : e.term.size ≤ 4194304) (ht : w.cell? ⟨bt, 0, none⟩ = some (.string tx)) :
    Calls Tryz.prog 70 #[.agg #[.string e.term, .string e.sub, v2, v3], .pointer (some ⟨bt, 0, none⟩)] w fun r w' => r = .returned (.bool (!decide (e.sub = noB) && decide (foldS e.term = tx))) ∧ Old w w' := by
  have oA : Old w (w.alloc (.cells #[.string e.term, .string e.sub, v2, v3] 45)) := (Old.refl w).alloc _
  have hobj := heap_alloc_new w (.cells #[.string e.term, .string e.sub, v2, v3] 45)
  have d0 := later (cells_atE (i := 0) hobj rfl)
  have d1 := later (cells_atE (i := 1) hobj rfl)
  have dt := later (oA.cell ht)
  have HF := Lib.hid (fun V (o : Old (w.alloc (.cells #[.string e.term, .string e.sub, v2, v3] 45)) V) => Fold_any e.term V (hT.old (oA.trans o)) hs)
  have Hs := Lib.hid (str_beq (foldS e.term) tx)
  clear hobj ht
  go_enter Tryz.func70, Tryz.ntmps70
  go_upto_region 1 with fail
  generalize w.alloc (.cells #[.string e.term, .string e.sub, v2, v3] 45) = wA at *
  generalize w.heap.size = ge at *
  have HdN : ∀ nq, Old wA (wA.drewN nq) := fun nq => ⟨rfl, rfl, rfl, Nat.le_refl _, fun _ _ => rfl⟩
  by_cases h : e.sub = noB
  · have HR : Hid ((!decide (e.sub = noB) && decide (foldS e.term = tx)) = false) := Lib.hid (by rw [h]; simp)
    have d1' : ∀ V, Old wA V → V.cell? ⟨ge, 1, none⟩ = some (.string ⟨#[]⟩) := by rw [show (⟨#[]⟩ : ByteArray) = e.sub from h.symm]; exact d1
    clear h d1
    go_quiet (fail)
    go_wp2_with fail
    go_ret
    exact ⟨ret_bool (by rw [HR.out]), oA.trans (HdN _)⟩
  · have HR : Hid ((!decide (e.sub = noB) && decide (foldS e.term = tx)) = decide (foldS e.term = tx)) := Lib.hid (by simp [h])
    have hn := str_nilK h
    clear h
    refine wp_region_old (Old.refl _) (by kernel_rfl) (by kernel_rfl) ?_
    repeat (go_big_quiet_step (first | with_reducible exact Calls.in_old (HF.out _ (OldW.old _)) | fail))
    refine wpQuiet_nil ?_
    rintro ⟨wq, hq⟩
    dsimp only
    go_wp2_with fail
    go_ret
    exact ⟨ret_bool (by rw [HR.out]; exact Hs.out), oA.trans hq⟩
theorem infoIntF : (Tryz.prog.info? 3).map (fun i => (i.zero, i.size, i.bytes)) = some (some (.int .i64 0), 1, 8) := by kernel_rfl
set_option maxRecDepth 100000 in
set_option maxHeartbeats 1600000 in
theorem chosenF_any (v : Value) (l : List En) (tx : ByteArray) (bt : Nat) (w : World) (hv : Ents w v l) (hT : Tabs w) (hl : l.length ≤ 1000000) (hs : ∀ e ∈ l, e.term.size ≤ 4194304) (ht : w.cell? ⟨bt, 0, none⟩ = some (.string tx)) :
    Calls Tryz.prog 64 #[v, .func (.func 65) #[] #[.pointer (some ⟨bt, 0, none⟩)]] w fun e w' => (∃ u, e = .returned u ∧ OwnI 3 w w' u (pickK (fun e => decide (e.sub = noB) && decide (foldS e.term = tx)) l l.length)) ∧ Old w w' := by
  obtain ⟨a, cap, rfl, hc1, hc2⟩ := Seqs.form hv
  obtain ⟨b, off, ha, hat⟩ := Ents.open hv
  have Ha := Lib.hid ha
  have Hat := Lib.hid hat
  have HC := Lib.hid (fun (e : En) (he : e ∈ l) v2 v3 V (o : Old w V) => find1_any e tx v2 v3 bt V (hT.old o) (hs e he) (o.cell ht))
  clear hv ha hat hs ht hT
  go_enter Tryz.func64, Tryz.ntmps64
  go_wp2_with fail
  go_loopg [5, 10] l.length (fun c u j wr => ∃ k : Nat, j = .int .i64 k ∧ k ≤ l.length ∧ l.length - k ≤ c ∧ OwnI 3 w wr u (pickK (fun e => decide (e.sub = noB) && decide (foldS e.term = tx)) l k) ∧ Old w wr)
  case atStart => exact ⟨0, rfl, Nat.zero_le _, Nat.le_refl _, OwnI.nil _ _ _, Old.refl _⟩
  case round =>
    obtain ⟨k, rfl, hk, hc, hown, ho⟩ := hrel
    have HO := Lib.hid hown
    have hpl := pickK_length (fun e => decide (e.sub = noB) && decide (foldS e.term = tx)) l k
    clear hown
    by_cases hlt : k < l.length
    · have hi : (k : Int) < l.length := by omega
      obtain ⟨e, he⟩ : ∃ e, l[k]? = some e := ⟨_, List.getElem?_eq_getElem hlt⟩
      obtain rfl := Ha.out (by omega)
      obtain ⟨a2, c2, a3, c3, hcs, _, _⟩ := Hat.out k e he
      have c0 : ∀ V, Old wr V → V.cell? ⟨b, off + k * 4, none⟩ = some (.string e.term) := fun V o => (hcs V (ho.trans o)).1
      have c1 : ∀ V, Old wr V → V.cell? ⟨b, off + k * 4 + 1, none⟩ = some (.string e.sub) := fun V o => (hcs V (ho.trans o)).2.1
      have c2' : ∀ V, Old wr V → V.cell? ⟨b, off + k * 4 + 2, none⟩ = some (.slice a2 e.topics.length c2) := fun V o => (hcs V (ho.trans o)).2.2.1
      have c3' : ∀ V, Old wr V → V.cell? ⟨b, off + k * 4 + 3, none⟩ = some (.slice a3 e.sees.length c3) := fun V o => (hcs V (ho.trans o)).2.2.2
      have HCe := Lib.hid (fun v2 v3 V (o : Old w V) => HC.out e (List.mem_of_getElem? he) v2 v3 V o)
      have Hstep : Hid (pickK (fun e => decide (e.sub = noB) && decide (foldS e.term = tx)) l (k + 1) = pickK (fun e => decide (e.sub = noB) && decide (foldS e.term = tx)) l k ++ (if decide (e.sub = noB) && decide (foldS e.term = tx) then [(k : Int)] else [])) := Lib.hid (pickK_snoc he)
      have oa : Old wr (wr.alloc (.cells #[.string e.term, .string e.sub, .slice a2 e.topics.length c2, .slice a3 e.sees.length c3] 45)) := (Old.refl wr).alloc _
      clear hcs he
      generalize pickK (fun e => decide (e.sub = noB) && decide (foldS e.term = tx)) l k = H at *
      generalize hb : (decide (e.sub = noB) && decide (foldS e.term = tx)) = r at *
      clear hb
      cases r with
      | false =>
        go_wp2_with (go_at_call 65; refine (HCe.out _ _ _ (ho.trans oa)).mono ?_; rintro z w3 ⟨rfl, o3⟩)
        have o5 := ho.trans (oa.trans o3)
        have HO5 := Lib.hid (HO.out.old (oa.trans o3))
        go_roundg (l.length - (k + 1))
        case measure => omega
        case rel => exact ⟨k + 1, by go_num, by omega, Nat.le_refl _, by rw [Hstep.out]; simpa using HO5.out, o5⟩
      | true =>
        go_wp2_with (first
          | (go_at_call 65; refine (HCe.out _ _ _ (ho.trans oa)).mono ?_; rintro z w3 ⟨rfl, o3⟩)
          | (at_builtin; go_loud (refine wpList_append_ints (w0 := w) rfl _ _ 42 rfl 3 Tryz.underlying42 infoIntF _ H [(k : Int)] rfl ((HO.out.old (oa.trans o3)).alloc _) _ rfl (Ints.one _ _ (k : Int)) (by simp; omega) ((ho.trans (oa.trans o3)).alloc _) ?_); intro v5 w5 hown5 ho5 _))
        go_roundg (l.length - (k + 1))
        case measure => omega
        case rel => exact ⟨k + 1, by go_num, by omega, Nat.le_refl _, by rw [Hstep.out]; simpa using hown5, ho5⟩
    · obtain rfl : k = l.length := by omega
      have hi : ¬ (l.length : Int) < l.length := by omega
      go_wp2_with fail
      go_ret
      exact ⟨⟨_, rfl, HO.out⟩, ho⟩
set_option maxRecDepth 100000 in
theorem Find_any (v : Value) (l : List En) (term : ByteArray) (w : World) (hv : Ents w v l) (hT : Tabs w) (hl : l.length ≤ 1000000) (hs : ∀ e ∈ l, e.term.size ≤ 4194304) (hx : term.size ≤ 4194304) :
    Calls Tryz.prog 23 #[v, .string term] w fun e w' => (∃ u, e = .returned u ∧ Ints w' u (findK l (foldS term))) ∧ Old w w' := by
  have HF := Lib.hid (Fold_any term w hT hx)
  have HC := Lib.hid (fun bt V (o : Old w V) (h : V.cell? ⟨bt, 0, none⟩ = some (.string (foldS term))) => chosenF_any v l (foldS term) bt V (hv.old o) (hT.old o) hl hs h)
  obtain ⟨a, cap, rfl, hc1, hc2⟩ := Seqs.form hv
  clear hv hT hs
  go_enter Tryz.func23, Tryz.ntmps23
  go_upto_region 1 with fail
  go_wp2_with (first
    | (go_at_call 51; refine HF.out.mono ?_; rintro e w1 ⟨rfl, o1⟩)
    | (go_at_call 64; refine (HC.out _ _ (o1.alloc _) (by simp [go_sem])).mono ?_; rintro e w2 ⟨⟨u, rfl, hu⟩, o2⟩; have o3 := (o1.alloc (.cells #[.string (foldS term)] 9)).trans o2))
  go_ret
  exact ⟨⟨_, rfl, hu.ints⟩, o3⟩
set_option maxRecDepth 100000 in
set_option maxHeartbeats 1600000 in
theorem chosenU_any (v : Value) (l : List En) (tx : ByteArray) (bt : Nat) (w : World) (hv : Ents w v l) (hT : Tabs w) (hl : l.length ≤ 1000000) (hs : ∀ e ∈ l, e.term.size ≤ 4194304) (ht : w.cell? ⟨bt, 0, none⟩ = some (.string tx)) :
    Calls Tryz.prog 64 #[v, .func (.func 70) #[] #[.pointer (some ⟨bt, 0, none⟩)]] w fun e w' => (∃ u, e = .returned u ∧ OwnI 3 w w' u (pickK (fun e => !decide (e.sub = noB) && decide (foldS e.term = tx)) l l.length)) ∧ Old w w' := by
  obtain ⟨a, cap, rfl, hc1, hc2⟩ := Seqs.form hv
  obtain ⟨b, off, ha, hat⟩ := Ents.open hv
  have Ha := Lib.hid ha
  have Hat := Lib.hid hat
  have HC := Lib.hid (fun (e : En) (he : e ∈ l) v2 v3 V (o : Old w V) => under1_any e tx v2 v3 bt V (hT.old o) (hs e he) (o.cell ht))
  clear hv ha hat hs ht hT
  go_enter Tryz.func64, Tryz.ntmps64
  go_wp2_with fail
  go_loopg [5, 10] l.length (fun c u j wr => ∃ k : Nat, j = .int .i64 k ∧ k ≤ l.length ∧ l.length - k ≤ c ∧ OwnI 3 w wr u (pickK (fun e => !decide (e.sub = noB) && decide (foldS e.term = tx)) l k) ∧ Old w wr)
  case atStart => exact ⟨0, rfl, Nat.zero_le _, Nat.le_refl _, OwnI.nil _ _ _, Old.refl _⟩
  case round =>
    obtain ⟨k, rfl, hk, hc, hown, ho⟩ := hrel
    have HO := Lib.hid hown
    have hpl := pickK_length (fun e => !decide (e.sub = noB) && decide (foldS e.term = tx)) l k
    clear hown
    by_cases hlt : k < l.length
    · have hi : (k : Int) < l.length := by omega
      obtain ⟨e, he⟩ : ∃ e, l[k]? = some e := ⟨_, List.getElem?_eq_getElem hlt⟩
      obtain rfl := Ha.out (by omega)
      obtain ⟨a2, c2, a3, c3, hcs, _, _⟩ := Hat.out k e he
      have c0 : ∀ V, Old wr V → V.cell? ⟨b, off + k * 4, none⟩ = some (.string e.term) := fun V o => (hcs V (ho.trans o)).1
      have c1 : ∀ V, Old wr V → V.cell? ⟨b, off + k * 4 + 1, none⟩ = some (.string e.sub) := fun V o => (hcs V (ho.trans o)).2.1
      have c2' : ∀ V, Old wr V → V.cell? ⟨b, off + k * 4 + 2, none⟩ = some (.slice a2 e.topics.length c2) := fun V o => (hcs V (ho.trans o)).2.2.1
      have c3' : ∀ V, Old wr V → V.cell? ⟨b, off + k * 4 + 3, none⟩ = some (.slice a3 e.sees.length c3) := fun V o => (hcs V (ho.trans o)).2.2.2
      have HCe := Lib.hid (fun v2 v3 V (o : Old w V) => HC.out e (List.mem_of_getElem? he) v2 v3 V o)
      have Hstep : Hid (pickK (fun e => !decide (e.sub = noB) && decide (foldS e.term = tx)) l (k + 1) = pickK (fun e => !decide (e.sub = noB) && decide (foldS e.term = tx)) l k ++ (if !decide (e.sub = noB) && decide (foldS e.term = tx) then [(k : Int)] else [])) := Lib.hid (pickK_snoc he)
      have oa : Old wr (wr.alloc (.cells #[.string e.term, .string e.sub, .slice a2 e.topics.length c2, .slice a3 e.sees.length c3] 45)) := (Old.refl wr).alloc _
      clear hcs he
      generalize pickK (fun e => !decide (e.sub = noB) && decide (foldS e.term = tx)) l k = H at *
      generalize hb : (!decide (e.sub = noB) && decide (foldS e.term = tx)) = r at *
      clear hb
      cases r with
      | false =>
        go_wp2_with (go_at_call 70; refine (HCe.out _ _ _ (ho.trans oa)).mono ?_; rintro z w3 ⟨rfl, o3⟩)
        have o5 := ho.trans (oa.trans o3)
        have HO5 := Lib.hid (HO.out.old (oa.trans o3))
        go_roundg (l.length - (k + 1))
        case measure => omega
        case rel => exact ⟨k + 1, by go_num, by omega, Nat.le_refl _, by rw [Hstep.out]; simpa using HO5.out, o5⟩
      | true =>
        go_wp2_with (first
          | (go_at_call 70; refine (HCe.out _ _ _ (ho.trans oa)).mono ?_; rintro z w3 ⟨rfl, o3⟩)
          | (at_builtin; go_loud (refine wpList_append_ints (w0 := w) rfl _ _ 42 rfl 3 Tryz.underlying42 infoIntF _ H [(k : Int)] rfl ((HO.out.old (oa.trans o3)).alloc _) _ rfl (Ints.one _ _ (k : Int)) (by simp; omega) ((ho.trans (oa.trans o3)).alloc _) ?_); intro v5 w5 hown5 ho5 _))
        go_roundg (l.length - (k + 1))
        case measure => omega
        case rel => exact ⟨k + 1, by go_num, by omega, Nat.le_refl _, by rw [Hstep.out]; simpa using hown5, ho5⟩
    · obtain rfl : k = l.length := by omega
      have hi : ¬ (l.length : Int) < l.length := by omega
      go_wp2_with fail
      go_ret
      exact ⟨⟨_, rfl, HO.out⟩, ho⟩
set_option maxRecDepth 100000 in
theorem Under_any (v : Value) (l : List En) (term : ByteArray) (w : World) (hv : Ents w v l) (hT : Tabs w) (hl : l.length ≤ 1000000) (hs : ∀ e ∈ l, e.term.size ≤ 4194304) (hx : term.size ≤ 4194304) :
    Calls Tryz.prog 30 #[v, .string term] w fun e w' => (∃ u, e = .returned u ∧ Ints w' u (underK l (foldS term))) ∧ Old w w' := by
  have hq : underK l (foldS term) = pickK (fun e => !decide (e.sub = noB) && decide (foldS e.term = foldS term)) l l.length := by
    unfold underK
    congr
    funext e
    simp
  rw [hq]
  clear hq
  have HF := Lib.hid (Fold_any term w hT hx)
  have HC := Lib.hid (fun bt V (o : Old w V) (h : V.cell? ⟨bt, 0, none⟩ = some (.string (foldS term))) => chosenU_any v l (foldS term) bt V (hv.old o) (hT.old o) hl hs h)
  obtain ⟨a, cap, rfl, hc1, hc2⟩ := Seqs.form hv
  clear hv hT hs
  go_enter Tryz.func30, Tryz.ntmps30
  go_upto_region 1 with fail
  go_wp2_with (first
    | (go_at_call 51; refine HF.out.mono ?_; rintro e w1 ⟨rfl, o1⟩)
    | (go_at_call 64; refine (HC.out _ _ (o1.alloc _) (by simp [go_sem])).mono ?_; rintro e w2 ⟨⟨u, rfl, hu⟩, o2⟩; have o3 := (o1.alloc (.cells #[.string (foldS term)] 9)).trans o2))
  go_ret
  exact ⟨⟨_, rfl, hu.ints⟩, o3⟩
end Go.Proofs.YtohngjkedhpikaaGreatDoor
