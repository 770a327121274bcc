/-
  TEXT, THE DOCUMENT's, C: how wide.
-/
import Derived.Test.YtjkpmdckpfklgaaDoorTextRefB
namespace Go.Proofs.YtjkpmdckpfklgaaDoor
open Go.RowKit
attribute [local go_sem] Old.refl Old.alloc Old.drew Old.setCell OldW.old

/-- what a cell's record says in every later world -/
theorem Recs.cellR {s : ByteArray} {w : World} {b off i : Nat} {t : List CellR} (ht : ∀ j u, ((cellE s).all t)[j]? = some u → ∀ W, Old w W → W.cell? ⟨b, off + j, none⟩ = some u) {x : CellR} (hx : t[i]? = some x) :
    ∀ V, Old w V → V.cell? ⟨b, off + i * 3, none⟩ = some (.string (s.extract x.a x.e)) ∧ V.cell? ⟨b, off + i * 3 + 1, none⟩ = some (.int .i64 x.a) ∧ V.cell? ⟨b, off + i * 3 + 2, none⟩ = some (.int .i64 x.w) := fun V o => by
  have h0 := ht (i * 3 + 0) _ (Enc.all_at (c := cellE s) (j := 0) hx rfl) V o
  have h1 := ht (i * 3 + 1) _ (Enc.all_at (c := cellE s) (j := 1) hx rfl) V o
  have h2 := ht (i * 3 + 2) _ (Enc.all_at (c := cellE s) (j := 2) hx rfl) V o
  rw [← Nat.add_assoc] at h1 h2
  exact ⟨h0, h1, h2⟩
set_option maxRecDepth 100000 in
set_option maxHeartbeats 1600000 in
theorem RWide_any (s : ByteArray) (w : World) (hs : s.size * 32 ≤ 140737488355328) :
    Calls Tryd.prog 23 #[.string s] w fun e w' => e = .returned (.int .i64 (wideS s)) ∧ Old w w' := by
  have Hc := Lib.hid (RCells_any s w hs)
  have hlen := cellsL_len s.data.toList
  have Hw := Lib.hid (cellsL_wide s.data.toList)
  have Hv := Lib.hid (show wideS s = sumW (cellsL s.data.toList) from rfl)
  rw [str_len] at hlen
  generalize cellsL s.data.toList = t at *
  go_enter Tryd.func23, Tryd.ntmps23
  go_wp2_with (go_at_call 21; refine Hc.out.mono ?_; rintro e w1 ⟨⟨v, rfl, hv⟩, ho1⟩; obtain ⟨a, cap, b, off, rfl, hc1, hc2, ha, ht⟩ := hv.recs)
  clear hv Hc
  have Ht := Lib.hid ht
  have Ha := Lib.hid ha
  clear ht ha
  go_loopw [3, 5] (fun n j wr => ∃ k : Nat, k ≤ t.length ∧ j = .int .i64 k ∧ n = .int .i64 (sumW (t.take k)) ∧ Old w1 wr ∧ sumW (t.take k) ≤ 2 * k) (fun _ j _ => t.length - (intOf j).toNat)
  case atStart => exact ⟨0, Nat.zero_le _, rfl, by simp [sumW], Old.refl _, by simp [sumW]⟩
  case round =>
    obtain ⟨k, hk, rfl, rfl, hold, hsum⟩ := hrel
    by_cases hlt : k < t.length
    · have hk1 : (k : Int) < t.length := by omega
      obtain rfl := Ha.out (by omega)
      obtain ⟨x, hx⟩ : ∃ x, t[k]? = some x := ⟨_, List.getElem?_eq_getElem hlt⟩
      have K2 := (Recs.cellR Ht.out hx wr hold).2.2
      have hxw := Hw.out x (List.mem_of_getElem? hx)
      have Hs := Lib.hid (sumW_take hx)
      clear hx
      generalize sumW (t.take k) = S at *
      go_wp2_with fail
      go_roundw
      case rel => exact ⟨k + 1, by omega, by go_num, by rw [Hs.out]; go_num, hold, by rw [Hs.out]; omega⟩
      case measure => simp [intOf]; omega
    · obtain rfl : k = t.length := by omega
      rw [List.take_length]
      go_wp2_with fail
      go_ret
      exact ⟨by rw [Hv.out]; rfl, ho1.trans hold⟩
end Go.Proofs.YtjkpmdckpfklgaaDoor
