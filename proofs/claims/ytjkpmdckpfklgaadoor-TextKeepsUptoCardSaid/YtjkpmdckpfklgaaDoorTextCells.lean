/-
  TEXT, CELLS: the cells of a text.
-/
import Derived.Test.YtjkpmdckpfklgaaDoorTextCodesC
import Derived.Test.YtjkpmdckpfklgaaDoorRecs
import Derived.StillTailTactics
namespace Go.Proofs.YtjkpmdckpfklgaaDoor
open Go.RowKit
attribute [local go_sem] Old.refl Old.alloc Old.drew Old.setCell OldW.old

/-- a cell of a text: from where to where, how wide -/
structure CellR where
  a : Nat
  e : Nat
  w : Nat
def cellE (s : ByteArray) : Enc CellR where
  k := 3
  enc x := [.string (s.extract x.a x.e), .int .i64 x.a, .int .i64 x.w]
  len _ := rfl
  one x u hu := by
    simp only [List.mem_cons, List.not_mem_nil, or_false] at hu
    rcases hu with rfl | rfl | rfl <;> rfl
theorem infoCell : (Tryd.prog.info? 33).map (fun i => (i.zero, i.size, i.bytes)) = some (some (.agg #[.string ⟨#[]⟩, .int .i64 0, .int .i64 0]), 3, 32) := by kernel_rfl
def lastC (t : List CellR) : CellR := t.getD (t.length - 1) ⟨0, 0, 0⟩
/-- one character more -/
def addC (t : List CellR) (p q w : Nat) : List CellR := if w = 0 ∧ 0 < t.length then t.set (t.length - 1) { lastC t with e := q } else t ++ [⟨p, q, max w 1⟩]
theorem addC_grow {t : List CellR} {p q : Nat} (h : 0 < t.length) : addC t p q 0 = t.set (t.length - 1) { lastC t with e := q } := by unfold addC; rw [if_pos ⟨rfl, h⟩]
theorem addC_first {p q : Nat} : addC [] p q 0 = [⟨p, q, 1⟩] := by unfold addC; rw [if_neg (by simp)]; rfl
theorem addC_new {t : List CellR} {p q w : Nat} (h : 1 ≤ w) : addC t p q w = t ++ [⟨p, q, w⟩] := by unfold addC; rw [if_neg (by omega), Nat.max_eq_left h]
/-- the last cell ends where one is -/
def Ends (t : List CellR) (p : Nat) : Prop := 0 < t.length → (lastC t).e = p ∧ (lastC t).a ≤ p
theorem lastC_get {t : List CellR} (h : 0 < t.length) : t[t.length - 1]? = some (lastC t) := by
  unfold lastC; rw [List.getD_eq_getElem?_getD, List.getElem?_eq_getElem (by omega)]; rfl
theorem lastC_app (t : List CellR) (x : CellR) : lastC (t ++ [x]) = x := by unfold lastC; simp
theorem Ends.add {t : List CellR} {p q w : Nat} (h : Ends t p) (hq : p ≤ q) : Ends (addC t p q w) q := by
  unfold addC
  split
  · rename_i hc
    obtain ⟨h1, h2⟩ := h hc.2
    intro _
    unfold lastC
    rw [List.length_set, List.getD_eq_getElem?_getD, List.getElem?_set_self (by omega)]
    exact ⟨rfl, by show (lastC t).a ≤ q; omega⟩
  · intro _
    rw [lastC_app]
    exact ⟨rfl, hq⟩
/-- the cells, from a place on, behind those that are there -/
def cellsGo (l : List UInt8) (p : Nat) (t : List CellR) : List CellR := if p < l.length then cellsGo l (p + chN l p) (addC t p (p + chN l p) (widC (chR l p))) else t
termination_by l.length - p
decreasing_by have := chN_pos l p; omega
theorem cellsGo_on {l : List UInt8} {p : Nat} (h : p < l.length) (t : List CellR) : cellsGo l p t = cellsGo l (p + chN l p) (addC t p (p + chN l p) (widC (chR l p))) := by rw [cellsGo, if_pos h]
theorem cellsGo_end {l : List UInt8} {p : Nat} (h : ¬ p < l.length) (t : List CellR) : cellsGo l p t = t := by rw [cellsGo, if_neg h]
theorem addC_len {t : List CellR} {p q w : Nat} : (addC t p q w).length ≤ t.length + 1 := by unfold addC; split <;> simp
def cellsL (l : List UInt8) : List CellR := cellsGo l 0 []
theorem extract_glue (s : ByteArray) {a p q : Nat} (h1 : a ≤ p) (h2 : p ≤ q) : s.extract a p ++ s.extract p q = s.extract a q := by
  rw [ByteArray.extract_append_extract, Nat.min_eq_left h1, Nat.max_eq_right h2]
theorem wrap_id {x : Int} (h0 : -9223372036854775808 ≤ x) (h1 : x ≤ 9223372036854775807) : IntKind.i64.wrap x = x := by
  simp only [IntKind.wrap_i64]
  omega
theorem widC_cases (r : Int) : widC r = 0 ∨ widC r = 1 ∨ widC r = 2 := by
  unfold widC
  split
  · exact .inl rfl
  · split
    · exact .inr (.inr rfl)
    · exact .inr (.inl rfl)
set_option maxRecDepth 100000 in
set_option maxHeartbeats 3200000 in
theorem Cells_any (s : ByteArray) (w : World) (hT : Tabs w) (hs : s.size * 32 ≤ 140737488355328) :
    Calls Tryd.prog 20 #[.string s] w fun e w' => (∃ v, e = .returned v ∧ OwnS (cellE s) 33 w w' v (cellsL s.data.toList)) ∧ Old w w' := by
  go_enter Tryd.func20, Tryd.ntmps20
  go_wp2_with fail
  go_loopw [3, 4] (fun x i wr => ∃ (p : Nat) (t : List CellR), p ≤ s.size ∧ t.length ≤ p ∧ i = .int .i64 p ∧ OwnS (cellE s) 33 w wr x t ∧ Old w wr ∧ Ends t p ∧ cellsGo s.data.toList p t = cellsL s.data.toList) (fun _ i _ => s.size - (intOf i).toNat)
  case atStart => exact ⟨0, [], Nat.zero_le _, Nat.zero_le _, rfl, OwnS.nil _ _ _ _, Old.refl _, fun h => by simp at h, rfl⟩
  case round =>
    obtain ⟨p, t, hp, htp, rfl, hown, ho, hends, hat⟩ := hrel
    have Hat := Lib.hid hat
    have Hends := Lib.hid hends
    have Hown := Lib.hid hown
    clear hat hends hown
    obtain ⟨ax, cx, rfl, hc1, hc2⟩ := Hown.out.form
    by_cases hlt : p < s.size
    · have hlt' : (p : Int) < s.size := by omega
      have hn1 := chN_pos s.data.toList p
      have hn2 := chN_le (l := s.data.toList) (p := p) (by rw [str_len]; exact hlt)
      rw [str_len] at hn2
      have hon := cellsGo_on (l := s.data.toList) (p := p) (by rw [str_len]; exact hlt) t
      have hr0 := chR_le s.data.toList p
      have HD := Lib.hid (fun V (o : Old w V) => decode_any s V (hT.old o) p hlt)
      have HW := Lib.hid (fun V => Width_any (chR s.data.toList p) V (by omega))
      rw [Hat.out] at hon
      have hwc := widC_cases (chR s.data.toList p)
      have Hon := Lib.hid hon
      clear hon Hat
      generalize chR s.data.toList p = R at *
      generalize chN s.data.toList p = n at *
      generalize widC R = W at *
      have hq : (p : Int) + n = ((p + n : Nat) : Int) := by omega
      have hpq : p ≤ p + n := by omega
      generalize p + n = q at *
      rcases hwc with rfl | rfl | rfl
      · by_cases h0 : 0 < t.length
        · have h0' : (0 : Int) < t.length := by omega
          rw [addC_grow h0] at Hon
          obtain ⟨g, rfl, hg1, hg2⟩ := Hown.out.block h0
          have hx := lastC_get h0
          obtain ⟨he, hae⟩ := Hends.out h0
          obtain ⟨m, hm⟩ : ∃ m, t.length = m + 1 := ⟨t.length - 1, by omega⟩
          have hm1 : t.length - 1 = m := by omega
          rw [hm1] at hx Hon
          have C0 : ∀ V, Old wr V → V.cell? ⟨g, m * 3, none⟩ = some (.string (s.extract (lastC t).a p)) := fun V o => by
            have := (Hown.out.old o).cell (j := 0) hx rfl
            rw [he] at this
            exact this
          have F0 : ∀ V, Old wr V → V.frozen? ⟨g, m * 3, none⟩ = false := fun V o => (Hown.out.old o).frozen _
          have S0 : ∀ V, Old wr V → OwnS (cellE s) 33 w (V.setCell ⟨g, m * 3, none⟩ (.string (s.extract (lastC t).a q))) (.slice (some ⟨g, 0, none⟩) t.length cx) (t.set m { lastC t with e := q }) := fun V o => (Hown.out.old o).stored (i := m) (j := 0) hx (Nat.zero_lt_succ 2) rfl
          have Hglue := extract_glue s hae hpq
          have HS := Lib.hid S0
          have Hm := Lib.hid hm
          rw [hm] at hc1 h0' ⊢
          clear S0 hx he hm1 hm
          generalize (lastC t).a = aa at *
          have hml : (m : Int) < (m : Int) + 1 := by omega
          have hml' : m < m + 1 := by omega
          have hcat : ¬ 9223372036854775807 < p - aa + (q - p) := by omega
          go_upto_region 7 with (first | (go_at_call 46; refine (HD.out _ ho).mono ?_; rintro e w1 ⟨rfl, ho1⟩) | (go_at_call 13; refine (HW.out _).mono ?_; rintro e w2 ⟨rfl, ho2⟩))
          have hwm : IntKind.i64.wrap (m : Int) = m := wrap_id (by omega) (by omega)
          have hwq : IntKind.i64.wrap (q : Int) = q := wrap_id (by omega) (by omega)
          have c0 := C0 _ (ho1.trans ho2).drew
          have f0 := F0 _ (ho1.trans ho2).drew
          have how : Old w w2 := (ho.trans ho1).trans ho2
          refine wp_region_still_tail 16 (by kernel_rfl) (by kernel_rfl) ?_
          simp only [List.take_succ_cons, List.take_zero, List.drop_succ_cons, List.drop_zero]
          repeat still_step
          refine wpStill_nil ?_
          go_wp2_with fail
          go_roundw
          case rel => exact ⟨q, _, hn2, by rw [List.length_set]; omega, by go_num, by have h := HS.out _ (ho1.trans ho2); rw [Hm.out] at h; exact h.drew, (how.setCell hg1 _).drew, by have h := Hends.out.add (p := p) (q := q) (w := 0) hpq; rw [addC_grow h0] at h; rw [show t.length - 1 = m from by rw [Hm.out]; omega] at h; exact h, Hon.out.symm⟩
          case measure => simp [intOf]; omega
        · obtain rfl : t = [] := List.eq_nil_of_length_eq_zero (by omega)
          rw [addC_first] at Hon
          have M0 : max (0 : Int) 1 = 1 := by decide
          go_wp2_with (first | (go_at_call 46; refine (HD.out _ ho).mono ?_; rintro e w1 ⟨rfl, ho1⟩) | (go_at_call 13; refine (HW.out _).mono ?_; rintro e w2 ⟨rfl, ho2⟩) | (at_builtin; (refine wpList_append_rec1 (c := cellE s) (w0 := w) rfl _ _ 27 rfl 33 Tryd.underlying27 _ infoCell rfl (Nat.zero_lt_succ 2) _ ([] : List CellR) rfl (((Hown.out.old ho1).old ho2).alloc _) w2.heap.size (⟨p, q, 1⟩ : CellR) rfl (fun j u hu => by simp [go_sem]; simpa [cellE] using hu) (by first | omega | (simp <;> omega)) (by first | omega | (simp <;> omega)) (by have h1 := ho.size; have h2 := ho1.size; have h3 := ho2.size; simp [go_sem]; omega) ?_); intro v' w4 hown4 hgr))
          have ho4 : Old w w4 := (((ho.trans ho1).trans ho2).alloc _).grown hgr (fun b hb => (World.ownsRow.lt Hown.out b hb).1)
          go_roundw
          case rel => exact ⟨q, ([] : List CellR) ++ [(⟨p, q, 1⟩ : CellR)], hn2, by first | omega | (simp <;> omega), by go_num, hown4, ho4, by have := Hends.out.add (p := p) (q := q) (w := 0) hpq; rw [addC_first] at this; exact this, Hon.out.symm⟩
          case measure => simp [intOf]; omega
      · rw [addC_new (by omega)] at Hon
        go_wp2_with (first | (go_at_call 46; refine (HD.out _ ho).mono ?_; rintro e w1 ⟨rfl, ho1⟩) | (go_at_call 13; refine (HW.out _).mono ?_; rintro e w2 ⟨rfl, ho2⟩) | (at_builtin; (refine wpList_append_rec1 (c := cellE s) (w0 := w) rfl _ _ 27 rfl 33 Tryd.underlying27 _ infoCell rfl (Nat.zero_lt_succ 2) _ t rfl (((Hown.out.old ho1).old ho2).alloc _) w2.heap.size (⟨p, q, 1⟩ : CellR) rfl (fun j u hu => by simp [go_sem]; simpa [cellE] using hu) (by first | omega | (simp <;> omega)) (by first | omega | (simp <;> omega)) (by have h1 := ho.size; have h2 := ho1.size; have h3 := ho2.size; simp [go_sem]; omega) ?_); intro v' w4 hown4 hgr))
        have ho4 : Old w w4 := (((ho.trans ho1).trans ho2).alloc _).grown hgr (fun b hb => (World.ownsRow.lt Hown.out b hb).1)
        go_roundw
        case rel => exact ⟨q, t ++ [(⟨p, q, 1⟩ : CellR)], hn2, by first | omega | (simp <;> omega), by go_num, hown4, ho4, by have := Hends.out.add (p := p) (q := q) (w := 1) hpq; rw [addC_new (by omega)] at this; exact this, Hon.out.symm⟩
        case measure => simp [intOf]; omega
      · rw [addC_new (by omega)] at Hon
        have M2 : max (2 : Int) 1 = 2 := by decide
        go_wp2_with (first | (go_at_call 46; refine (HD.out _ ho).mono ?_; rintro e w1 ⟨rfl, ho1⟩) | (go_at_call 13; refine (HW.out _).mono ?_; rintro e w2 ⟨rfl, ho2⟩) | (at_builtin; (refine wpList_append_rec1 (c := cellE s) (w0 := w) rfl _ _ 27 rfl 33 Tryd.underlying27 _ infoCell rfl (Nat.zero_lt_succ 2) _ t rfl (((Hown.out.old ho1).old ho2).alloc _) w2.heap.size (⟨p, q, 2⟩ : CellR) rfl (fun j u hu => by simp [go_sem]; simpa [cellE] using hu) (by first | omega | (simp <;> omega)) (by first | omega | (simp <;> omega)) (by have h1 := ho.size; have h2 := ho1.size; have h3 := ho2.size; simp [go_sem]; omega) ?_); intro v' w4 hown4 hgr))
        have ho4 : Old w w4 := (((ho.trans ho1).trans ho2).alloc _).grown hgr (fun b hb => (World.ownsRow.lt Hown.out b hb).1)
        go_roundw
        case rel => exact ⟨q, t ++ [(⟨p, q, 2⟩ : CellR)], hn2, by first | omega | (simp <;> omega), by go_num, hown4, ho4, by have := Hends.out.add (p := p) (q := q) (w := 2) hpq; rw [addC_new (by omega)] at this; exact this, Hon.out.symm⟩
        case measure => simp [intOf]; omega
    · obtain rfl : p = s.size := by omega
      have Hend := Lib.hid (cellsGo_end (l := s.data.toList) (p := s.size) (by rw [str_len]; exact hlt) t)
      go_wp2_with fail
      go_ret
      exact ⟨⟨_, rfl, by rw [← Hat.out, Hend.out]; exact Hown.out⟩, ho⟩
end Go.Proofs.YtjkpmdckpfklgaaDoor
