/-
  LINK, C: in new memory; whether a list has a number; pairs.
-/
import Derived.Test.YtkaoipegbjmlnaaLinkA
namespace Go.Proofs.Ytkaoipegbjmlnaa
open Go.RowKit
attribute [local go_sem] Old.refl Old.alloc Old.drew Old.setCell OldW.old

theorem infoRf : (Try.prog.info? 48).map (fun i => (i.zero, i.size, i.bytes)) = some (some (.agg #[.int .i64 0, .int .i64 0, .int .i64 0, .string ⟨#[]⟩, .int .i64 0, .int .i64 0]), 6, 56) := by kernel_rfl
theorem infoInt : (Try.prog.info? 3).map (fun i => (i.zero, i.size, i.bytes)) = some (some (.int .i64 0), 1, 8) := by kernel_rfl
/-- what a reference's cells say in every later world -/
theorem Recs.six {w : World} {b off i : Nat} {t : List Rfr} (ht : ∀ j u, (rfE.all t)[j]? = some u → ∀ W, Old w W → W.cell? ⟨b, off + j, none⟩ = some u) {x : Rfr} (hx : t[i]? = some x) :
    ∀ V, Old w V → V.cell? ⟨b, off + i * 6, none⟩ = some (.int .i64 x.f) ∧ V.cell? ⟨b, off + i * 6 + 1, none⟩ = some (.int .i64 x.t) ∧ V.cell? ⟨b, off + i * 6 + 2, none⟩ = some (.int .i64 x.n) ∧
      V.cell? ⟨b, off + i * 6 + 3, none⟩ = some (.string x.s) ∧ V.cell? ⟨b, off + i * 6 + 4, none⟩ = some (.int .i64 x.l) ∧ V.cell? ⟨b, off + i * 6 + 5, none⟩ = some (.int .i64 x.c) := fun V o => by
  have h0 := ht (i * 6 + 0) _ (Enc.all_at (c := rfE) (j := 0) hx rfl) V o
  have h1 := ht (i * 6 + 1) _ (Enc.all_at (c := rfE) (j := 1) hx rfl) V o
  have h2 := ht (i * 6 + 2) _ (Enc.all_at (c := rfE) (j := 2) hx rfl) V o
  have h3 := ht (i * 6 + 3) _ (Enc.all_at (c := rfE) (j := 3) hx rfl) V o
  have h4 := ht (i * 6 + 4) _ (Enc.all_at (c := rfE) (j := 4) hx rfl) V o
  have h5 := ht (i * 6 + 5) _ (Enc.all_at (c := rfE) (j := 5) hx rfl) V o
  rw [← Nat.add_assoc] at h1 h2 h3 h4 h5
  exact ⟨h0, h1, h2, h3, h4, h5⟩
set_option maxRecDepth 100000 in
set_option maxHeartbeats 800000 in
theorem twin_any (v : Value) (l : List Rfr) (w : World) (hl : Recs rfE w v l) (hz : l.length * 56 ≤ 140737488355328) :
    Calls Try.prog 8 #[v] w fun e w' => (∃ u, e = .returned u ∧ OwnS rfE 48 w w' u l) ∧ Old w w' := by
  have Hl := Lib.hid hl
  obtain ⟨a, cap, rfl, hc1, hc2⟩ := hl.form
  clear hl
  go_enter Try.func8, Try.ntmps8
  go_wp2_with (at_builtin; refine wpList_append_recs (c := rfE) (w0 := w) rfl _ _ 22 rfl 48 Try.underlying22 _ infoRf rfl (Nat.zero_lt_succ 5) _ [] l rfl (World.ownsRow_lit w #[] 0 (Nat.le_refl _) (by simp) rfl) _ rfl (Hl.out.old ((Old.refl w).alloc _)) (by simp; omega) (by simpa using hz) ((Old.refl w).alloc _) ?_; intro v2 w2 hv2 ho2 _)
  go_ret
  exact ⟨⟨_, rfl, by simpa using hv2⟩, ho2⟩
set_option maxRecDepth 100000 in
set_option maxHeartbeats 800000 in
theorem has_any (v : Value) (l : List Int) (n : Int) (w : World) (hl : Ints w v l) :
    Calls Try.prog 10 #[v, .int .i64 n] w fun e w' => e = .returned (.bool (decide (n ∈ l))) ∧ w = w' := by
  obtain ⟨a1, c1, b1, off1, rfl, hc11, hc12, ha1, ht1⟩ := hl
  have Ha1 := Lib.hid ha1
  have Ht1 := Lib.hid ht1
  clear ha1 ht1
  go_enter Try.func10, Try.ntmps10
  go_wp2_with fail
  go_loopw [5] (fun j wr => ∃ k : Nat, j = .int .i64 k ∧ k ≤ l.length ∧ n ∉ l.take k ∧ w = wr) (fun j _ => l.length - (intOf j).toNat)
  case atStart => exact ⟨0, rfl, Nat.zero_le _, by simp, by trivial⟩
  case round =>
    obtain ⟨k, rfl, hk, hno, rfl⟩ := hrel
    have Hno := Lib.hid hno
    clear hno
    by_cases hlt : k < l.length
    · have hi : (k : Int) < l.length := by omega
      obtain rfl := Ha1.out (by omega)
      have k1 := Ht1.out k hlt w (Old.refl w)
      have hx : l[k]? = some (ix l k) := by unfold ix; rw [List.getD_eq_getElem?_getD, List.getElem?_eq_getElem hlt]; rfl
      have Hm := Lib.hid (List.mem_of_getElem? hx)
      have Hsn : Hid (ix l k ≠ n → n ∉ l.take (k + 1)) := fun e h => by
        rw [List.take_succ_eq_append_getElem hlt, (List.getElem?_eq_some_iff.1 hx).2] at h
        rcases List.mem_append.1 h with h | h
        · exact Hno.out h
        · exact e (List.mem_singleton.1 h).symm
      clear hx
      generalize ix l k = x at *
      by_cases e : x = n
      · have hb : (x == n) = true := by rw [beq_iff_eq]; exact e
        have Hin := Lib.hid (show n ∈ l from e ▸ Hm.out)
        clear e
        go_wp2_with fail
        go_ret
        exact ⟨by rw [decide_eq_true Hin.out]; rfl, by trivial⟩
      · have hb : (x == n) = false := by rw [beq_eq_false_iff_ne]; exact e
        have Hs := Lib.hid (Hsn.out e)
        clear e
        go_wp2_with fail
        go_roundw
        case rel => exact ⟨k + 1, by go_num, by omega, Hs.out, by trivial⟩
        case measure => simp [intOf]; omega
    · obtain rfl : k = l.length := by omega
      have Hs : Hid (n ∉ l) := by
        have h := Hno.out
        rw [List.take_length] at h
        exact h
      have hi : ¬ (l.length : Int) < l.length := by omega
      go_wp2_with fail
      go_ret
      exact ⟨by rw [decide_eq_false Hs.out]; rfl, by trivial⟩
end Go.Proofs.Ytkaoipegbjmlnaa
