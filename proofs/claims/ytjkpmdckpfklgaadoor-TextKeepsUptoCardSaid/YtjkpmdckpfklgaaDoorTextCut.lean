/-
  TEXT, CUT: a text cut at a width; the document's.
-/
import Derived.Test.YtjkpmdckpfklgaaDoorTextRefC
namespace Go.Proofs.YtjkpmdckpfklgaaDoor
open Go.RowKit
attribute [local go_sem] Old.refl Old.alloc Old.drew Old.setCell OldW.old

theorem cellsL_at (l : List UInt8) : ∀ x ∈ cellsL l, x.a ≤ l.length := by
  have h := cellsL_ind (l := l) (Q := fun t p => p ≤ l.length ∧ ∀ x ∈ t, x.a ≤ l.length) ⟨Nat.zero_le _, by simp⟩ (fun t p hp h => ⟨chN_le hp, fun x hx => by
    unfold addC at hx
    split at hx
    · rename_i hc
      rcases List.mem_or_eq_of_mem_set hx with hx | rfl
      · exact h.2 x hx
      · exact h.2 (lastC t) (List.mem_of_getElem? (lastC_get hc.2))
    · rw [List.mem_append] at hx
      rcases hx with hx | hx
      · exact h.2 x hx
      · rw [List.mem_singleton.1 hx]; exact h.1⟩)
  exact h.2
/-- where these cells are cut, so many being used up -/
def cutAt (wide : Int) : List CellR → Nat → Option Nat
  | [], _ => none
  | x :: r, n => if wide < n + x.w then some x.a else cutAt wide r (n + x.w)
theorem cutAt_hit {wide : Int} {t : List CellR} {k n : Nat} {x : CellR} (hx : t[k]? = some x) (h : wide < n + x.w) : cutAt wide (t.drop k) n = some x.a := by
  rw [List.drop_eq_getElem_cons (List.getElem?_eq_some_iff.1 hx).1, (List.getElem?_eq_some_iff.1 hx).2, cutAt, if_pos h]
theorem cutAt_on {wide : Int} {t : List CellR} {k n : Nat} {x : CellR} (hx : t[k]? = some x) (h : ¬ wide < n + x.w) : cutAt wide (t.drop k) n = cutAt wide (t.drop (k + 1)) (n + x.w) := by
  rw [List.drop_eq_getElem_cons (List.getElem?_eq_some_iff.1 hx).1, (List.getElem?_eq_some_iff.1 hx).2, cutAt, if_neg h]
/-- the two parts -/
def cutV (s : ByteArray) : Option Nat → Value
  | some a => .tuple #[.string (s.extract 0 a), .string (s.extract a s.size)]
  | none => .tuple #[.string s, .string ⟨#[]⟩]
set_option maxRecDepth 100000 in
set_option maxHeartbeats 3200000 in
theorem Cut_any (s : ByteArray) (wide : Int) (bw : -9223372036854775808 ≤ wide ∧ wide ≤ 9223372036854775807) (w : World) (hT : Tabs w) (hs : s.size * 32 ≤ 140737488355328) :
    Calls Tryd.prog 31 #[.string s, .int .i64 wide] w fun e w' => e = .returned (cutV s (cutAt wide (cellsL s.data.toList) 0)) ∧ Old w w' := by
  have Hc := Lib.hid (Cells_any s w hT hs)
  have hlen := cellsL_len s.data.toList
  have Hw := Lib.hid (cellsL_wide s.data.toList)
  have Hp := Lib.hid (cellsL_at s.data.toList)
  rw [str_len] at hlen Hp
  generalize cellsL s.data.toList = t at *
  go_enter Tryd.func31, Tryd.ntmps31
  go_wp2_with (go_at_call 20; refine Hc.out.mono ?_; rintro e w1 ⟨⟨v, rfl, hv⟩, ho1⟩; obtain ⟨a, cap, b, off, rfl, hc1, hc2, ha, ht⟩ := hv.recs)
  clear hv Hc
  have Ht := Lib.hid ht
  have Ha := Lib.hid ha
  clear ht ha
  go_loopw [6, 12] (fun n j wr => ∃ k : Nat, k ≤ t.length ∧ j = .int .i64 k ∧ n = .int .i64 (sumW (t.take k)) ∧ Old w1 wr ∧ sumW (t.take k) ≤ 2 * k ∧ cutAt wide (t.drop k) (sumW (t.take k)) = cutAt wide t 0) (fun _ j _ => t.length - (intOf j).toNat)
  case atStart => exact ⟨0, Nat.zero_le _, rfl, by simp [sumW], Old.refl _, by simp [sumW], rfl⟩
  case round =>
    obtain ⟨k, hk, rfl, rfl, hold, hsum, hat⟩ := hrel
    have Hat := Lib.hid hat
    clear hat
    by_cases hlt : k < t.length
    · have hk1 : (k : Int) < t.length := by omega
      obtain rfl := Ha.out (by omega)
      obtain ⟨x, hx⟩ : ∃ x, t[k]? = some x := ⟨_, List.getElem?_eq_getElem hlt⟩
      have K := Recs.cellR Ht.out hx
      have k0 := fun V (o : Old wr V) => (K V (hold.trans o)).1
      have k1 := fun V (o : Old wr V) => (K V (hold.trans o)).2.1
      have k2 := fun V (o : Old wr V) => (K V (hold.trans o)).2.2
      have hxw := Hw.out x (List.mem_of_getElem? hx)
      have hxa := Hp.out x (List.mem_of_getElem? hx)
      have hxa' : (x.a : Int) ≤ s.size := by omega
      have Hs := Lib.hid (sumW_take hx)
      have hsp : (wide < (sumW (t.take k) : Int) + x.w ∧ cutAt wide (t.drop k) (sumW (t.take k)) = some x.a) ∨ (¬ wide < (sumW (t.take k) : Int) + x.w ∧ cutAt wide (t.drop k) (sumW (t.take k)) = cutAt wide (t.drop (k + 1)) (sumW (t.take k) + x.w)) := by
        by_cases h : wide < (sumW (t.take k) : Int) + x.w
        · exact .inl ⟨h, cutAt_hit hx h⟩
        · exact .inr ⟨h, cutAt_on hx h⟩
      clear hx K
      generalize sumW (t.take k) = S at *
      generalize s.extract x.a x.e = tx at *
      generalize x.a = xa at *
      generalize x.w = xw at *
      rcases hsp with ⟨hgt, hc⟩ | ⟨hgt, hc⟩
      · have Hcc := Lib.hid hc
        have hd : decide (wide < (S : Int) + xw) = true := by simpa using hgt
        clear hc
        have kx := later (w := wr.alloc (.cells #[.string tx, .int .i64 xa, .int .i64 xw] 33)) (p := ⟨wr.heap.size, 1, none⟩) (v := .int .i64 xa) (by simp [go_sem])
        go_upto_region 6 with fail
        refine wp_region_old (Old.refl _) (by kernel_rfl) (by kernel_rfl) ?_
        repeat (go_big_quiet_step (fail))
        refine wpQuiet_nil ?_
        rintro ⟨wv, hv⟩
        dsimp only
        go_wp2_with fail
        go_ret2
        exact ⟨by rw [← Hat.out, Hcc.out]; rfl, (ho1.trans hold).trans (((Old.refl wr).alloc _).trans hv)⟩
      · have Hcc := Lib.hid hc
        have hd : decide (wide < (S : Int) + xw) = false := by simpa using hgt
        clear hc
        go_wp2_with fail
        go_roundw
        case rel => exact ⟨k + 1, by omega, by go_num, by rw [Hs.out]; go_num, hold.alloc _, by rw [Hs.out]; omega, by rw [Hs.out, ← Hcc.out]; exact Hat.out⟩
        case measure => simp [intOf]; omega
    · obtain rfl : k = t.length := by omega
      have He := Lib.hid (show cutAt wide t 0 = none from by rw [← Hat.out, List.drop_length]; rfl)
      go_wp2_with fail
      go_ret2
      exact ⟨by rw [He.out]; rfl, ho1.trans hold⟩
set_option maxRecDepth 100000 in
set_option maxHeartbeats 3200000 in
theorem RCut_any (s : ByteArray) (wide : Int) (bw : -9223372036854775808 ≤ wide ∧ wide ≤ 9223372036854775807) (w : World) (hs : s.size * 32 ≤ 140737488355328) :
    Calls Tryd.prog 32 #[.string s, .int .i64 wide] w fun e w' => e = .returned (cutV s (cutAt wide (cellsL s.data.toList) 0)) ∧ Old w w' := by
  have Hc := Lib.hid (RCells_any s w hs)
  have hlen := cellsL_len s.data.toList
  have Hw := Lib.hid (cellsL_wide s.data.toList)
  have Hp := Lib.hid (cellsL_at s.data.toList)
  rw [str_len] at hlen Hp
  generalize cellsL s.data.toList = t at *
  go_enter Tryd.func32, Tryd.ntmps32
  go_wp2_with (go_at_call 21; refine Hc.out.mono ?_; rintro e w1 ⟨⟨v, rfl, hv⟩, ho1⟩; obtain ⟨a, cap, b, off, rfl, hc1, hc2, ha, ht⟩ := hv.recs)
  clear hv Hc
  have Ht := Lib.hid ht
  have Ha := Lib.hid ha
  clear ht ha
  go_loopw [7, 8] (fun n j wr => ∃ k : Nat, k ≤ t.length ∧ j = .int .i64 k ∧ n = .int .i64 (sumW (t.take k)) ∧ Old w1 wr ∧ sumW (t.take k) ≤ 2 * k ∧ cutAt wide (t.drop k) (sumW (t.take k)) = cutAt wide t 0) (fun _ j _ => t.length - (intOf j).toNat)
  case atStart => exact ⟨0, Nat.zero_le _, rfl, by simp [sumW], Old.refl _, by simp [sumW], rfl⟩
  case round =>
    obtain ⟨k, hk, rfl, rfl, hold, hsum, hat⟩ := hrel
    have Hat := Lib.hid hat
    clear hat
    by_cases hlt : k < t.length
    · have hk1 : (k : Int) < t.length := by omega
      obtain rfl := Ha.out (by omega)
      obtain ⟨x, hx⟩ : ∃ x, t[k]? = some x := ⟨_, List.getElem?_eq_getElem hlt⟩
      have K := Recs.cellR Ht.out hx
      have k0 := fun V (o : Old wr V) => (K V (hold.trans o)).1
      have k1 := fun V (o : Old wr V) => (K V (hold.trans o)).2.1
      have k2 := fun V (o : Old wr V) => (K V (hold.trans o)).2.2
      have hxw := Hw.out x (List.mem_of_getElem? hx)
      have hxa := Hp.out x (List.mem_of_getElem? hx)
      have hxa' : (x.a : Int) ≤ s.size := by omega
      have Hs := Lib.hid (sumW_take hx)
      have hsp : (wide < (sumW (t.take k) : Int) + x.w ∧ cutAt wide (t.drop k) (sumW (t.take k)) = some x.a) ∨ (¬ wide < (sumW (t.take k) : Int) + x.w ∧ cutAt wide (t.drop k) (sumW (t.take k)) = cutAt wide (t.drop (k + 1)) (sumW (t.take k) + x.w)) := by
        by_cases h : wide < (sumW (t.take k) : Int) + x.w
        · exact .inl ⟨h, cutAt_hit hx h⟩
        · exact .inr ⟨h, cutAt_on hx h⟩
      clear hx K
      generalize sumW (t.take k) = S at *
      generalize s.extract x.a x.e = tx at *
      generalize x.a = xa at *
      generalize x.w = xw at *
      rcases hsp with ⟨hgt, hc⟩ | ⟨hgt, hc⟩
      · have Hcc := Lib.hid hc
        have hd : decide (wide < (S : Int) + xw) = true := by simpa using hgt
        clear hc
        go_upto_region 7 with fail
        refine wp_region_old (Old.refl _) (by kernel_rfl) (by kernel_rfl) ?_
        repeat (go_big_quiet_step (fail))
        refine wpQuiet_nil ?_
        rintro ⟨wv, hv⟩
        dsimp only
        go_wp2_with fail
        go_ret2
        exact ⟨by rw [← Hat.out, Hcc.out]; rfl, (ho1.trans hold).trans hv⟩
      · have Hcc := Lib.hid hc
        have hd : decide (wide < (S : Int) + xw) = false := by simpa using hgt
        clear hc
        go_wp2_with fail
        go_roundw
        case rel => exact ⟨k + 1, by omega, by go_num, by rw [Hs.out]; go_num, hold, by rw [Hs.out]; omega, by rw [Hs.out, ← Hcc.out]; exact Hat.out⟩
        case measure => simp [intOf]; omega
    · obtain rfl : k = t.length := by omega
      have He := Lib.hid (show cutAt wide t 0 = none from by rw [← Hat.out, List.drop_length]; rfl)
      go_wp2_with fail
      go_ret2
      exact ⟨by rw [He.out]; rfl, ho1.trans hold⟩
end Go.Proofs.YtjkpmdckpfklgaaDoor
