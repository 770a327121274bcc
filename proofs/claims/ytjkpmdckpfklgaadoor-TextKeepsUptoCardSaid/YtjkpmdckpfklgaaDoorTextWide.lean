/-
  TEXT, WIDE, WORDS.
-/
import Derived.Test.YtjkpmdckpfklgaaDoorTextCells
namespace Go.Proofs.YtjkpmdckpfklgaaDoor
open Go.RowKit
attribute [local go_sem] Old.refl Old.alloc Old.drew Old.setCell OldW.old

theorem cellsGo_ind {l : List UInt8} {Q : List CellR → Nat → Prop} (step : ∀ t p, p < l.length → Q t p → Q (addC t p (p + chN l p) (widC (chR l p))) (p + chN l p)) :
    ∀ (d p : Nat) (t : List CellR), l.length - p = d → p ≤ l.length → Q t p → Q (cellsGo l p t) l.length := by
  intro d
  induction d using Nat.strongRecOn with
  | _ d ih =>
    intro p t hd hp h
    by_cases hlt : p < l.length
    · have h1 := chN_pos l p
      have h2 := chN_le hlt
      rw [cellsGo_on hlt]
      exact ih (l.length - (p + chN l p)) (by omega) _ _ rfl h2 (step t p hlt h)
    · obtain rfl : p = l.length := by omega
      rw [cellsGo_end hlt]; exact h
theorem cellsL_ind {l : List UInt8} {Q : List CellR → Nat → Prop} (h0 : Q [] 0) (step : ∀ t p, p < l.length → Q t p → Q (addC t p (p + chN l p) (widC (chR l p))) (p + chN l p)) : Q (cellsL l) l.length :=
  cellsGo_ind step _ 0 [] rfl (Nat.zero_le _) h0
theorem cellsL_len (l : List UInt8) : (cellsL l).length ≤ l.length :=
  cellsL_ind (Q := fun t p => t.length ≤ p) (Nat.le_refl _) (fun t p hp h => by
    have h1 := chN_pos l p
    have h2 := addC_len (t := t) (p := p) (q := p + chN l p) (w := widC (chR l p))
    omega)
theorem addC_mem {t : List CellR} {p q w : Nat} {x : CellR} (h : x ∈ addC t p q w) : (∃ y ∈ t, x.w = y.w) ∨ x = ⟨p, q, max w 1⟩ := by
  unfold addC at h
  split at h
  · rename_i hc
    rcases List.mem_or_eq_of_mem_set h with h | rfl
    · exact .inl ⟨x, h, rfl⟩
    · exact .inl ⟨lastC t, List.mem_of_getElem? (lastC_get hc.2), rfl⟩
  · rw [List.mem_append] at h
    rcases h with h | h
    · exact .inl ⟨x, h, rfl⟩
    · exact .inr (List.mem_singleton.1 h)
/-- each cell is one or two wide -/
theorem cellsL_wide (l : List UInt8) : ∀ x ∈ cellsL l, 1 ≤ x.w ∧ x.w ≤ 2 :=
  cellsL_ind (Q := fun t _ => ∀ x ∈ t, 1 ≤ x.w ∧ x.w ≤ 2) (by simp) (fun t p hp h x hx => by
    rcases addC_mem hx with ⟨y, hy, e⟩ | rfl
    · rw [e]; exact h y hy
    · have := widC_cases (chR l p)
      show 1 ≤ max _ 1 ∧ max _ 1 ≤ 2
      omega)
def sumW : List CellR → Nat
  | [] => 0
  | x :: t => x.w + sumW t
theorem sumW_app (t u : List CellR) : sumW (t ++ u) = sumW t + sumW u := by
  induction t with
  | nil => simp [sumW]
  | cons x t ih => simp [sumW, ih, Nat.add_assoc]
theorem sumW_take {t : List CellR} {k : Nat} {x : CellR} (h : t[k]? = some x) : sumW (t.take (k + 1)) = sumW (t.take k) + x.w := by
  have hlt := (List.getElem?_eq_some_iff.1 h).1
  rw [List.take_succ_eq_append_getElem hlt, sumW_app, (List.getElem?_eq_some_iff.1 h).2]; rfl
theorem sumW_le : ∀ {t : List CellR}, (∀ x ∈ t, 1 ≤ x.w ∧ x.w ≤ 2) → sumW t ≤ 2 * t.length
  | [], _ => by simp [sumW]
  | x :: t, h => by
    have h1 := h x (by simp)
    have h2 := sumW_le (t := t) (fun y hy => h y (by simp [hy]))
    simp only [sumW, List.length_cons]; omega
/-- how wide a text is -/
def wideS (s : ByteArray) : Nat := sumW (cellsL s.data.toList)
theorem wideS_le (s : ByteArray) : wideS s ≤ 2 * s.size := by
  have h1 := sumW_le (cellsL_wide s.data.toList)
  have h2 := cellsL_len s.data.toList
  rw [str_len] at h2
  unfold wideS; omega
set_option maxRecDepth 100000 in
set_option maxHeartbeats 1600000 in
theorem Wide_any (s : ByteArray) (w : World) (hT : Tabs w) (hs : s.size * 32 ≤ 140737488355328) :
    Calls Tryd.prog 22 #[.string s] w fun e w' => e = .returned (.int .i64 (wideS s)) ∧ Old w w' := by
  have Hc := Lib.hid (Cells_any s w hT hs)
  have hlen := cellsL_len s.data.toList
  have Hw := Lib.hid (cellsL_wide s.data.toList)
  have Hv := Lib.hid (show wideS s = sumW (cellsL s.data.toList) from rfl)
  rw [str_len] at hlen
  generalize cellsL s.data.toList = t at *
  go_enter Tryd.func22, Tryd.ntmps22
  go_wp2_with (go_at_call 20; refine Hc.out.mono ?_; rintro e w1 ⟨⟨v, rfl, hv⟩, ho1⟩; obtain ⟨a, cap, b, off, rfl, hc1, hc2, ha, ht⟩ := hv.recs)
  clear hv Hc
  have Ht := Lib.hid ht
  have Ha := Lib.hid ha
  clear ht ha
  go_loopw [3, 9] (fun n j wr => ∃ k : Nat, k ≤ t.length ∧ j = .int .i64 k ∧ n = .int .i64 (sumW (t.take k)) ∧ Old w1 wr ∧ sumW (t.take k) ≤ 2 * k) (fun _ j _ => t.length - (intOf j).toNat)
  case atStart => exact ⟨0, Nat.zero_le _, rfl, by simp [sumW], Old.refl _, by simp [sumW]⟩
  case round =>
    obtain ⟨k, hk, rfl, rfl, hold, hsum⟩ := hrel
    by_cases hlt : k < t.length
    · have hk1 : (k : Int) < t.length := by omega
      obtain rfl := Ha.out (by omega)
      obtain ⟨x, hx⟩ : ∃ x, t[k]? = some x := ⟨_, List.getElem?_eq_getElem hlt⟩
      have k0 : ∀ V, Old w1 V → V.cell? ⟨b, off + k * 3, none⟩ = some (.string (s.extract x.a x.e)) := fun V o => Ht.out (k * 3 + 0) _ (Enc.all_at (c := cellE s) (j := 0) hx rfl) V o
      have k1 : ∀ V, Old w1 V → V.cell? ⟨b, off + k * 3 + 1, none⟩ = some (.int .i64 x.a) := fun V o => by
        have := Ht.out (k * 3 + 1) _ (Enc.all_at (c := cellE s) (j := 1) hx rfl) V o
        rwa [← Nat.add_assoc] at this
      have k2 : ∀ V, Old w1 V → V.cell? ⟨b, off + k * 3 + 2, none⟩ = some (.int .i64 x.w) := fun V o => by
        have := Ht.out (k * 3 + 2) _ (Enc.all_at (c := cellE s) (j := 2) hx rfl) V o
        rwa [← Nat.add_assoc] at this
      have hxw := Hw.out x (List.mem_of_getElem? hx)
      have Hs := Lib.hid (sumW_take hx)
      have K0 := k0 wr hold
      have K1 := k1 wr hold
      have K2 := k2 wr hold
      clear hx k0 k1 k2
      generalize sumW (t.take k) = S at *
      go_wp2_with fail
      go_roundw
      case rel => exact ⟨k + 1, by omega, by go_num, by rw [Hs.out]; go_num, hold.alloc _, by rw [Hs.out]; omega⟩
      case measure => simp [intOf]; omega
    · obtain rfl : k = t.length := by omega
      rw [List.take_length]
      go_wp2_with fail
      go_ret
      exact ⟨by rw [Hv.out]; rfl, ho1.trans hold⟩
end Go.Proofs.YtjkpmdckpfklgaaDoor
