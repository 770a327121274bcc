/-
  TEXT, THE DOCUMENT's, B: cells, how wide.
-/
import Derived.Test.YtjkpmdckpfklgaaDoorTextWide
import Derived.Test.YtjkpmdckpfklgaaDoorTextCodesD
import Derived.Test.YtjkpmdckpfklgaaDoorTextRefA
import Derived.BigQuiet
import Derived.Deep.DeepCutAuto
namespace Go.Proofs.YtjkpmdckpfklgaaDoor
open Go.RowKit
attribute [local go_sem] Old.refl Old.alloc Old.drew Old.setCell OldW.old

theorem infoRCell : (Tryd.prog.info? 34).map (fun i => (i.zero, i.size, i.bytes)) = some (some (.agg #[.string ⟨#[]⟩, .int .i64 0, .int .i64 0]), 3, 32) := by kernel_rfl
/-- what a character's cells say in every later world -/
theorem Recs.chr {w : World} {b off i : Nat} {t : List Chr} (ht : ∀ j u, (chE.all t)[j]? = some u → ∀ W, Old w W → W.cell? ⟨b, off + j, none⟩ = some u) {x : Chr} (hx : t[i]? = some x) :
    ∀ V, Old w V → V.cell? ⟨b, off + i * 4, none⟩ = some (.int .i32 x.r) ∧ V.cell? ⟨b, off + i * 4 + 1, none⟩ = some (.int .i64 x.at') ∧ V.cell? ⟨b, off + i * 4 + 2, none⟩ = some (.int .i64 x.n) ∧ V.cell? ⟨b, off + i * 4 + 3, none⟩ = some (.bool x.bad) := fun V o => by
  have h0 := ht (i * 4 + 0) _ (Enc.all_at (c := chE) (j := 0) hx rfl) V o
  have h1 := ht (i * 4 + 1) _ (Enc.all_at (c := chE) (j := 1) hx rfl) V o
  have h2 := ht (i * 4 + 2) _ (Enc.all_at (c := chE) (j := 2) hx rfl) V o
  have h3 := ht (i * 4 + 3) _ (Enc.all_at (c := chE) (j := 3) hx rfl) V o
  rw [← Nat.add_assoc] at h1 h2 h3
  exact ⟨h0, h1, h2, h3⟩
/-- the characters that are left begin at p -/
theorem chars_step {l : List UInt8} {i p : Nat} (h : (charsAt l 0).drop i = charsAt l p) (hi : i < (charsAt l 0).length) :
    p < l.length ∧ (charsAt l 0)[i]? = some ⟨chR l p, p, chN l p, badC l p⟩ ∧ (charsAt l 0).drop (i + 1) = charsAt l (p + chN l p) := by
  have hp : p < l.length := by
    by_cases k : p < l.length
    · exact k
    · rw [charsAt_end k] at h
      have := congrArg List.length h
      simp at this; omega
  rw [charsAt_on hp, List.drop_eq_getElem_cons hi] at h
  have h1 := (List.cons.inj h).1
  exact ⟨hp, by rw [List.getElem?_eq_getElem hi, h1], (List.cons.inj h).2⟩
theorem chars_done {l : List UInt8} {i p : Nat} (h : (charsAt l 0).drop i = charsAt l p) (hi : ¬ i < (charsAt l 0).length) : ¬ p < l.length := fun k => by
  rw [charsAt_on k, List.drop_eq_nil_of_le (by omega)] at h
  cases h
set_option maxRecDepth 100000 in
set_option maxHeartbeats 6400000 in
theorem RCells_any (s : ByteArray) (w : World) (hs : s.size * 32 ≤ 140737488355328) :
    Calls Tryd.prog 21 #[.string s] w fun e w' => (∃ v, e = .returned v ∧ OwnS (cellE s) 34 w w' v (cellsL s.data.toList)) ∧ Old w w' := by
  have Hc := Lib.hid (Chars_any s w hs)
  go_enter Tryd.func21, Tryd.ntmps21
  go_wp2_with (go_at_call 24; refine Hc.out.mono ?_; rintro e w1 ⟨⟨v1, rfl, hv1⟩, ho1⟩; obtain ⟨a, cap, b, off, rfl, hcap1, hcap2, ha, ht⟩ := hv1.recs)
  clear Hc hv1
  have Ha := Lib.hid ha
  have Ht := Lib.hid ht
  clear ha ht
  go_loopw [3, 5] (fun x j wr => ∃ (i p : Nat) (t : List CellR), i ≤ (charsAt s.data.toList 0).length ∧ p ≤ s.size ∧ t.length ≤ p ∧ j = .int .i64 i ∧ OwnS (cellE s) 34 w1 wr x t ∧ Old w1 wr ∧ Ends t p ∧ (charsAt s.data.toList 0).drop i = charsAt s.data.toList p ∧ cellsGo s.data.toList p t = cellsL s.data.toList) (fun _ j _ => (charsAt s.data.toList 0).length - (intOf j).toNat)
  case atStart => exact ⟨0, 0, [], Nat.zero_le _, Nat.zero_le _, Nat.zero_le _, rfl, OwnS.nil _ _ _ _, Old.refl _, fun h => by simp at h, rfl, rfl⟩
  case round =>
    obtain ⟨i, p, t, hi, hp, htp, rfl, hown, ho, hends, hdr, hat⟩ := hrel
    have Hat := Lib.hid hat
    have Hends := Lib.hid hends
    have Hown := Lib.hid hown
    have Hdr := Lib.hid hdr
    clear hat hends hown hdr
    obtain ⟨ax, cx, rfl, hc1, hc2⟩ := Hown.out.form
    by_cases hlt : i < (charsAt s.data.toList 0).length
    · obtain ⟨hpl, hget, hnext⟩ := chars_step Hdr.out hlt
      rw [str_len] at hpl
      have hn1 := chN_pos s.data.toList p
      have hn2 := chN_le (l := s.data.toList) (p := p) (by rw [str_len]; exact hpl)
      rw [str_len] at hn2
      have hon := cellsGo_on (l := s.data.toList) (p := p) (by rw [str_len]; exact hpl) t
      have hr0 := chR_le s.data.toList p
      obtain rfl := Ha.out (by omega)
      have K := Recs.chr Ht.out hget
      have HW := Lib.hid (fun V => RWidth_any (chR s.data.toList p) V)
      rw [Hat.out] at hon
      have hwc := widC_cases (chR s.data.toList p)
      have Hon := Lib.hid hon
      have Hnext := Lib.hid hnext
      have k0 := fun V (o : Old wr V) => (K V (ho.trans o)).1
      have k1 := fun V (o : Old wr V) => (K V (ho.trans o)).2.1
      have k2 := fun V (o : Old wr V) => (K V (ho.trans o)).2.2.1
      clear hon Hat K hget hnext Hdr
      dsimp only at k0 k1 k2
      generalize chR s.data.toList p = R at *
      generalize chN s.data.toList p = n at *
      generalize widC R = W at *
      generalize (charsAt s.data.toList 0).length = L at *
      have hi1 : (i : Int) < L := by omega
      have hq : (p : Int) + n = ((p + n : Nat) : Int) := by omega
      have hpq : p ≤ p + n := by omega
      have hpn : p < p + n := by omega
      generalize p + n = q at *
      have hqs : (q : Int) ≤ s.size := by omega
      have hpqi : (p : Int) ≤ q := by omega
      go_upto_region 7 with (go_at_call 14; refine (HW.out _).mono ?_; rintro e w2 ⟨rfl, rfl⟩)
      refine wp_region_old (Old.refl _) (by kernel_rfl) (by kernel_rfl) ?_
      repeat (go_big_quiet_step (fail))
      refine wpQuiet_nil ?_
      rintro ⟨wq, hwq⟩
      dsimp only
      rcases hwc with rfl | rfl | rfl
      · by_cases h0 : 0 < t.length
        · have h0' : (0 : Int) < t.length := by omega
          rw [addC_grow h0] at Hon
          obtain ⟨g, rfl, hg1, hg2⟩ := Hown.out.block h0
          have hx := lastC_get h0
          obtain ⟨he, hae⟩ := Hends.out h0
          obtain ⟨m, hm⟩ : ∃ m, t.length = m + 1 := ⟨t.length - 1, by omega⟩
          have hm1 : t.length - 1 = m := by omega
          rw [hm1] at hx Hon
          have hcl : wq.cell? ⟨g, m * 3, none⟩ = some (.string (s.extract (lastC t).a p)) := by
            have := (Hown.out.old hwq).cell (j := 0) hx rfl
            rw [he] at this
            exact this
          have hfr : wq.frozen? ⟨g, m * 3, none⟩ = false := (Hown.out.old hwq).frozen _
          have HS := Lib.hid ((Hown.out.old hwq).stored (i := m) (j := 0) (x' := { lastC t with e := q }) (u := .string (s.extract (lastC t).a q)) hx (Nat.zero_lt_succ 2) rfl)
          have Hglue := extract_glue s hae hpq
          have Hm := Lib.hid hm
          rw [hm] at hc1 h0' ⊢
          clear hx he hm1 hm
          generalize (lastC t).a = aa at *
          have hml : (m : Int) < (m : Int) + 1 := by omega
          have hml' : m < m + 1 := by omega
          have hcat : ¬ 9223372036854775807 < p - aa + (q - p) := by omega
          have how : Old w1 wq := ho.trans hwq
          go_wp2_with fail
          go_roundw
          case rel => exact ⟨i + 1, q, _, by omega, hn2, by rw [List.length_set]; omega, by go_num, by have h := HS.out; rw [Hm.out] at h; exact h, how.setCell hg1 _, by have h := Hends.out.add (p := p) (q := q) (w := 0) hpq; rw [addC_grow h0] at h; rw [show t.length - 1 = m from by rw [Hm.out]; omega] at h; exact h, Hnext.out, Hon.out.symm⟩
          case measure => simp [intOf]; omega
        · obtain rfl : t = [] := List.eq_nil_of_length_eq_zero (by omega)
          rw [addC_first] at Hon
          have M0 : max (0 : Int) 1 = 1 := by decide
          go_wp2_with (at_builtin; refine wpList_append_rec1 (c := cellE s) (w0 := w1) rfl _ _ 29 rfl 34 Tryd.underlying29 _ infoRCell rfl (Nat.zero_lt_succ 2) _ ([] : List CellR) rfl ((Hown.out.old hwq).alloc _) wq.heap.size (⟨p, q, 1⟩ : CellR) rfl (fun j u hu => by simp [go_sem]; simpa [cellE] using hu) (by first | omega | (simp <;> omega)) (by first | omega | (simp <;> omega)) (by have h1 := ho.size; have h2 := hwq.size; simp [go_sem]; omega) ?_; intro v' w4 hown4 hgr)
          have ho4 : Old w1 w4 := ((ho.trans hwq).alloc _).grown hgr (fun b hb => (World.ownsRow.lt Hown.out b hb).1)
          go_roundw
          case rel => exact ⟨i + 1, q, ([] : List CellR) ++ [(⟨p, q, 1⟩ : CellR)], by omega, hn2, by first | omega | (simp <;> omega), by go_num, hown4, ho4, by have := Hends.out.add (p := p) (q := q) (w := 0) hpq; rw [addC_first] at this; exact this, Hnext.out, Hon.out.symm⟩
          case measure => simp [intOf]; omega
      · rw [addC_new (by omega)] at Hon
        go_wp2_with (at_builtin; refine wpList_append_rec1 (c := cellE s) (w0 := w1) rfl _ _ 29 rfl 34 Tryd.underlying29 _ infoRCell rfl (Nat.zero_lt_succ 2) _ t rfl ((Hown.out.old hwq).alloc _) wq.heap.size (⟨p, q, 1⟩ : CellR) rfl (fun j u hu => by simp [go_sem]; simpa [cellE] using hu) (by first | omega | (simp <;> omega)) (by first | omega | (simp <;> omega)) (by have h1 := ho.size; have h2 := hwq.size; simp [go_sem]; omega) ?_; intro v' w4 hown4 hgr)
        have ho4 : Old w1 w4 := ((ho.trans hwq).alloc _).grown hgr (fun b hb => (World.ownsRow.lt Hown.out b hb).1)
        go_roundw
        case rel => exact ⟨i + 1, q, t ++ [(⟨p, q, 1⟩ : CellR)], by omega, hn2, by first | omega | (simp <;> omega), by go_num, hown4, ho4, by have := Hends.out.add (p := p) (q := q) (w := 1) hpq; rw [addC_new (by omega)] at this; exact this, Hnext.out, Hon.out.symm⟩
        case measure => simp [intOf]; omega
      · rw [addC_new (by omega)] at Hon
        have M2 : max (2 : Int) 1 = 2 := by decide
        go_wp2_with (at_builtin; refine wpList_append_rec1 (c := cellE s) (w0 := w1) rfl _ _ 29 rfl 34 Tryd.underlying29 _ infoRCell rfl (Nat.zero_lt_succ 2) _ t rfl ((Hown.out.old hwq).alloc _) wq.heap.size (⟨p, q, 2⟩ : CellR) rfl (fun j u hu => by simp [go_sem]; simpa [cellE] using hu) (by first | omega | (simp <;> omega)) (by first | omega | (simp <;> omega)) (by have h1 := ho.size; have h2 := hwq.size; simp [go_sem]; omega) ?_; intro v' w4 hown4 hgr)
        have ho4 : Old w1 w4 := ((ho.trans hwq).alloc _).grown hgr (fun b hb => (World.ownsRow.lt Hown.out b hb).1)
        go_roundw
        case rel => exact ⟨i + 1, q, t ++ [(⟨p, q, 2⟩ : CellR)], by omega, hn2, by first | omega | (simp <;> omega), by go_num, hown4, ho4, by have := Hends.out.add (p := p) (q := q) (w := 2) hpq; rw [addC_new (by omega)] at this; exact this, Hnext.out, Hon.out.symm⟩
        case measure => simp [intOf]; omega
    · have hend := chars_done Hdr.out hlt
      have Hend := Lib.hid (cellsGo_end hend t)
      have hi1 : ¬ (i : Int) < (charsAt s.data.toList 0).length := by omega
      generalize (charsAt s.data.toList 0).length = L at *
      go_wp2_with fail
      go_ret
      exact ⟨⟨_, rfl, by rw [← Hat.out, Hend.out]; exact Hown.out.lower ho1.size⟩, ho1.trans ho⟩
end Go.Proofs.YtjkpmdckpfklgaaDoor
