/-
  OCTET, WALKS D: the cursor: made, asked where it stands.
-/
import Derived.Test.YtaclkoipobgmkaaDoorOctWalksC
import Derived.Laws.CopyOwn
namespace Go.Proofs.YtaclkoipobgmkaaDoor
open Go.RowKit
attribute [local go_sem] Old.refl Old.alloc Old.drew Old.setCell OldW.old

/-- block c: a cursor over the bytes l, at place p, the error e; its bytes lie elsewhere -/
structure Cur (w : World) (c : Nat) (l : List Int) (p : Nat) (e : Int) : Prop where
  at1 : w.cell? ⟨c, 1, none⟩ = some (.int .i64 p)
  er2 : w.cell? ⟨c, 2, none⟩ = some (.int .i64 e)
  fz : ∀ j, w.frozen? ⟨c, j, none⟩ = false
  row : ∃ a cap, w.cell? ⟨c, 0, none⟩ = some (.slice a l.length cap) ∧ Nums .u8 w (.slice a l.length cap) l ∧ ∀ x, a = some x → x.block ≠ c
  le : p ≤ l.length

theorem OwnN.raw {k : IntKind} {E : TypeId} {w0 w : World} {g n : Nat} {l : List Int} (h : OwnN k E w0 w (.slice (some ⟨g, 0, none⟩) n n) l) : w.heap[g]? = some (.cells (l.map (.int k)).toArray E) ∧ n = l.length := by
  have hn := h.len
  obtain ⟨h1, ⟨h2, _⟩ | ⟨g', cap, cur, e, hb, hg, hnc, hcm, hcs, ht⟩⟩ := h
  · cases h2
  · simp at e
    obtain ⟨rfl, rfl, rfl⟩ := e
    refine ⟨?_, hn⟩
    rw [List.take_of_length_le (by rw [Array.length_toList, hcs]; omega)] at ht
    rw [← ht]; exact hg
theorem OwnN.of_raw {k : IntKind} {E : TypeId} {w0 w : World} {g : Nat} {l : List Int} (h : w.heap[g]? = some (.cells (l.map (.int k)).toArray E)) (hb : w0.heap.size ≤ g) (hl : l.length ≤ 9223372036854775807) :
    OwnN k E w0 w (.slice (some ⟨g, 0, none⟩) l.length l.length) l :=
  ⟨by simp, .inr ⟨g, l.length, _, rfl, hb, h, Nat.le_refl _, by simpa [maxLen] using hl, by simp, by simp [List.take_of_length_le]⟩⟩
set_option maxHeartbeats 800000 in
theorem New_any (l : List Int) (v : Value) (w : World) (hT : Nums .u8 w v l) (hz : l.length ≤ 140737488355328) :
    Calls Tryd.prog 10 #[v] w fun e w' => (∃ c, e = .returned (.pointer (some ⟨c, 0, none⟩)) ∧ w.heap.size ≤ c ∧ Cur w' c l 0 0) ∧ Old w w' := by
  obtain ⟨a, cap, b, off, rfl, hn1, hn2, ha, ht0⟩ := hT
  have hbyte : (Tryd.prog.info? 5).map (·.size) = some 1 := by kernel_rfl
  have hz63 : l.length ≤ 9223372036854775807 := by omega
  rcases Nat.eq_zero_or_pos l.length with h0 | h0
  · obtain rfl : l = [] := List.eq_nil_of_length_eq_zero h0
    go_enter Tryd.func10, Tryd.ntmps10
    go_wp2_with (first
      | (at_make; refine wpList_make_nums (k := .u8) (w0 := w) rfl _ _ 22 rfl 5 Tryd.underlying22 infoByte 0 rfl rfl (by omega) (by omega) (Old.refl w) ?_; intro w1 hown ho1 hs1)
      | ((with_reducible show wpList _ _ _ _ _ _); refine wpList_copy_nothing rfl (.tmp 12) (.tmp 13) 22 22 rfl 5 Tryd.underlying22 hbyte _ _ _ _ _ _ rfl rfl rfl ?_))
    go_ret
    refine ⟨⟨w1.heap.size, rfl, ho1.size, ⟨by simp [go_sem], by simp [go_sem], fun j => by simp [go_sem], ⟨some ⟨w.heap.size, 0, none⟩, 0, by simp [go_sem], (hown.alloc _).nums, fun x hx => ?_⟩, Nat.le_refl _⟩⟩, ho1.alloc _⟩
    cases hx
    show w.heap.size ≠ w1.heap.size
    omega
  · obtain rfl := ha h0
    go_enter Tryd.func10, Tryd.ntmps10
    go_wp2_with (first
      | (at_make; refine wpList_make_nums (k := .u8) (w0 := w) rfl _ _ 22 rfl 5 Tryd.underlying22 infoByte l.length rfl rfl (by omega) (by omega) (Old.refl w) ?_; intro w1 hown ho1 hs1)
      | ((with_reducible show wpList _ _ _ _ _ _); (refine wpList_copy_own rfl (.tmp 12) (.tmp 13) 22 22 rfl 5 Tryd.underlying22 hbyte w.heap.size 0 l.length l.length ⟨b, off, none⟩ l.length cap rfl rfl _ _ (hown.alloc _).raw.1 (l.map (.int .u8)) (by simp) (Nums.cells ht0 (ho1.alloc _)) (by simp) (nums_one l) ?_)))

    go_ret
    have hraw := (hown.alloc (.cells #[.slice (some ⟨w.heap.size, 0, none⟩) l.length l.length, .int .i64 0, .int .i64 0] 61)).raw.1
    have hrow := setRow_heap _ w.heap.size _ (l.map (Value.int .u8)).toArray _ _ hraw
    have hne : w1.heap.size ≠ w.heap.size := by omega
    refine ⟨⟨w1.heap.size, rfl, ho1.size, ⟨?_, ?_, fun j => ?_, ⟨some ⟨w.heap.size, 0, none⟩, l.length, ?_, ?_, fun x hx => ?_⟩, Nat.zero_le _⟩⟩, below_setRow (ho1.alloc _) (Nat.le_refl _) _⟩
    · rw [cell_setRow_other _ _ _ _ hne]; simp [go_sem]
    · rw [cell_setRow_other _ _ _ _ hne]; simp [go_sem]
    · have e := setRow_other (w1.alloc (.cells #[.slice (some ⟨w.heap.size, 0, none⟩) l.length l.length, .int .i64 0, .int .i64 0] 61)) w.heap.size w1.heap.size (l.map (Value.int .u8)).toArray hne
      have e2 : (w1.alloc (.cells #[.slice (some ⟨w.heap.size, 0, none⟩) l.length l.length, .int .i64 0, .int .i64 0] 61)).frozen? ⟨w1.heap.size, j, none⟩ = false := by simp [go_sem]
      unfold World.frozen? at e2 ⊢
      dsimp only at e2 ⊢
      rw [e]; exact e2
    · rw [cell_setRow_other _ _ _ _ hne]; simp [go_sem]
    · exact (OwnN.of_raw (w0 := w) (E := 5) hrow (Nat.le_refl _) hz63).nums
    · cases hx; exact Ne.symm hne

variable {l : List Int} {p c : Nat} {e : Int} {w : World}
theorem Err_any (h : Cur w c l p e) : Calls Tryd.prog 13 #[.pointer (some ⟨c, 0, none⟩)] w fun r w' => r = .returned (.int .i64 e) ∧ w = w' := by
  have h2 := h.er2
  clear h
  go_enter Tryd.func13, Tryd.ntmps13
  go_wp2
  go_ret
  exact ⟨rfl, rfl⟩
theorem At_any (h : Cur w c l p e) : Calls Tryd.prog 16 #[.pointer (some ⟨c, 0, none⟩)] w fun r w' => r = .returned (.int .i64 p) ∧ w = w' := by
  have h1 := h.at1
  clear h
  go_enter Tryd.func16, Tryd.ntmps16
  go_wp2
  go_ret
  exact ⟨rfl, rfl⟩
theorem Left_any (h : Cur w c l p e) (hz : l.length ≤ 9223372036854775807) : Calls Tryd.prog 36 #[.pointer (some ⟨c, 0, none⟩)] w fun r w' => r = .returned (.int .i64 (l.length - p)) ∧ Old w w' := by
  have h1 := later h.at1
  have hle := h.le
  obtain ⟨a, cap, h0, _, _⟩ := h.row
  have h0' := later h0
  clear h h0
  go_enter Tryd.func36, Tryd.ntmps36
  go_wp2_with fail
  refine wp_region_old (Old.refl _) (by kernel_rfl) (by kernel_rfl) ?_
  repeat (go_big_quiet_step (fail))
  refine wpQuiet_nil ?_
  rintro ⟨wq, hq⟩
  dsimp only
  go_wp2_with fail
  go_ret
  exact ⟨rfl, hq⟩
theorem fine_any (h : Cur w c l p e) : Calls Tryd.prog 40 #[.pointer (some ⟨c, 0, none⟩)] w fun r w' => r = .returned (.bool (e == 0)) ∧ w = w' := by
  have Hc := Lib.hid (Err_any h)
  clear h
  go_enter Tryd.func40, Tryd.ntmps40
  go_wp2_with (go_at_call 13; refine Hc.out.mono ?_; rintro r w1 ⟨rfl, rfl⟩)
  go_ret
  exact ⟨rfl, rfl⟩
end Go.Proofs.YtaclkoipobgmkaaDoor
