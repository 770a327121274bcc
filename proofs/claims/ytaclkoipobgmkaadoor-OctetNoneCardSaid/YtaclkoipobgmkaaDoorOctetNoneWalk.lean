/-
  OCTET NONE: the walk.
-/
import Derived.Test.YtaclkoipobgmkaaDoorOctWalksK
import Derived.Test.YtaclkoipobgmkaaDoorRecs
import Derived.Deep.RegionHeld3
import Derived.Deep.DeepCutAuto
namespace Go.Proofs.YtaclkoipobgmkaaDoor
open Go.RowKit
attribute [local go_sem] Old.refl Old.alloc Old.drew Old.setCell OldW.old

/-- all blocks that w had, but a and b, lie as they lay -/
structure Old2 (a b : Nat) (w W : World) : Prop where
  os : W.os = w.os
  tape : W.tape = w.tape
  output : W.output = w.output
  size : w.heap.size ≤ W.heap.size
  block : ∀ k, k < w.heap.size → k ≠ a → k ≠ b → W.heap[k]? = w.heap[k]?
theorem Old2.of1 {a b : Nat} {w W : World} (h : OldBut a w W) : Old2 a b w W := ⟨h.os, h.tape, h.output, h.size, fun k hk ha _ => h.block k hk ha⟩
theorem Old2.of2 {a b : Nat} {w W : World} (h : OldBut b w W) : Old2 a b w W := ⟨h.os, h.tape, h.output, h.size, fun k hk _ hb => h.block k hk hb⟩
theorem Old2.of_old {a b : Nat} {w W : World} (h : Old w W) : Old2 a b w W := ⟨h.os, h.tape, h.output, h.size, fun k hk _ _ => h.block k hk⟩
theorem Old2.trans {a b : Nat} {x y z : World} (h : Old2 a b x y) (k : Old2 a b y z) : Old2 a b x z :=
  ⟨k.os.trans h.os, k.tape.trans h.tape, k.output.trans h.output, Nat.le_trans h.size k.size, fun i hi ha hb => (k.block i (Nat.lt_of_lt_of_le hi h.size) ha hb).trans (h.block i hi ha hb)⟩
theorem Old2.cell {a b : Nat} {w W : World} (h : Old2 a b w W) {p : Addr} {v : Value} (hc : w.cell? p = some v) (ha : p.block ≠ a) (hb : p.block ≠ b) : W.cell? p = some v := by
  rw [← hc]
  exact World.cell?_of_block (h.block p.block (World.block_lt_of_cell? w p hc) ha hb)
theorem Old2.base {a b : Nat} {w0 w W : World} (h : Old2 a b w W) (ho : Old w0 w) (ha : w0.heap.size ≤ a) (hb : w0.heap.size ≤ b) : Old w0 W :=
  ⟨h.os.trans ho.os, h.tape.trans ho.tape, h.output.trans ho.output, Nat.le_trans ho.size h.size, fun k hk => (h.block k (Nat.lt_of_lt_of_le hk ho.size) (by omega) (by omega)).trans (ho.block k hk)⟩
theorem Cur.but_nil {w W : World} {c d p : Nat} {e : Int} (h : Cur w c [] p e) (o : OldBut d w W) (hd : c ≠ d) : Cur W c [] p e := by
  obtain ⟨a, cap, h0, hr, hne⟩ := h.row
  refine ⟨o.cell h.at1 hd, o.cell h.er2 hd, fun j => ?_, ⟨a, cap, o.cell h0 hd, ?_, hne⟩, h.le⟩
  · have hb := o.block c (World.block_lt_of_cell? w _ h.at1) hd
    have := h.fz j
    unfold World.frozen? at this ⊢
    dsimp only at this ⊢
    rw [hb]; exact this
  · obtain ⟨_, _, _, _, e, h1, h2, _, _⟩ := hr
    obtain ⟨rfl, _, rfl⟩ := Value.slice.inj e
    exact ⟨_, _, 0, 0, rfl, h1, h2, by simp, by simp⟩
theorem byt_nil : Byt [] := fun i hi => by simp at hi
theorem uint_nil (e : Int) : uintC [] 0 e = (0, 0, failE e 30) := by
  by_cases h : e = 0
  · subst h
    have hn : num [] 0 0 0 = (0, 0, 30) := num_torn (by simp)
    rw [uintC_fail (by rw [hn]; decide), hn]; rfl
  · rw [uintC_bad h, failE_more h]
theorem take_nil (e n : Int) : takeC [] 0 e n = ([], 0, (takeC [] 0 e n).2.2) := by
  unfold takeC
  split
  · split
    · rfl
    · split
      · rfl
      · rename_i h1 h2
        have : n = 0 := by simp at h2; omega
        subst this
        rfl
  · rfl
theorem failE30_ne (e : Int) : ¬ failE e 30 = 0 := by unfold failE; split <;> omega
theorem index_nil (e lim : Int) : indexC [] 0 e lim = (0, 0, failE e 30) := by rw [indexC_bad (by rw [uint_nil]; exact failE30_ne e), uint_nil]
theorem bytes_nil (e lim : Int) : bytesC [] 0 e lim = ([], 0, failE e 30) := by rw [bytesC_bad (by rw [uint_nil]; exact failE30_ne e), uint_nil]
theorem text_nil (e lim : Int) : textC [] 0 e lim = (strOfNums [], 0, failE e 30) := by rw [textC_bad (by rw [bytes_nil]; exact failE30_ne e), bytes_nil]
/-- both cursors over no bytes, alike -/
def TwoNil (cx co : Nat) (w : World) : Prop := ∃ e, Cur w cx [] 0 e ∧ Cur w co [] 0 e
/-- true answered, both cursors alike behind -/
def RetAsked (cx co : Nat) (w : World) (r : Ending) (w' : World) : Prop := r = .returned (.bool true) ∧ TwoNil cx co w' ∧ Old2 cx co w w'
set_option maxRecDepth 100000 in
set_option maxHeartbeats 1600000 in
theorem asked_none (w0 w : World) (hT : Tabs w0) (ho0 : Old w0 w) (cx co : Nat) (hx0 : w0.heap.size ≤ cx) (h : TwoNil cx co w) (hne : cx ≠ co) (k n : Int) (hk : 0 ≤ k ∧ k ≤ 8) (hn : -9223372036854775808 ≤ n ∧ n ≤ 9223372036854775807) :
    Calls Tryd.prog 37 #[.pointer (some ⟨cx, 0, none⟩), .pointer (some ⟨co, 0, none⟩), .agg #[.int .i64 k, .int .i64 n]] w (RetAsked cx co w) := by
  obtain ⟨e, hx, ho⟩ := h
  have hltx := hx.lt
  have hlto := ho.lt
  have Hx := Lib.hid (hx.old ((Old.refl w).alloc (.cells #[.int .i64 k, .int .i64 n] 66)))
  have Ho := Lib.hid (ho.old ((Old.refl w).alloc (.cells #[.int .i64 k, .int .i64 n] 66)))
  clear hx ho
  obtain ⟨hk0, hk8⟩ := hk
  obtain ⟨kn, rfl⟩ := Int.eq_ofNat_of_zero_le hk0
  have hkn : kn ≤ 8 := by omega
  clear hk0 hk8
  match kn, hkn with
  | 0, _ =>
    go_enter Tryd.func37, Tryd.ntmps37
    go_wp2_with fail
    refine (Byte_any Hx.out byt_nil (by simp)).mono ?_
    rw [take_nil]
    rintro r w1 ⟨rfl, hx1, o1⟩
    go_wp2_with fail
    refine (RFixed_any (Ho.out.but_nil o1 (Ne.symm hne)) byt_nil (by simp) 1 (by omega) (by omega)).mono ?_
    rw [take_nil]
    rintro r w2 ⟨rfl, ho2, o2⟩
    go_wp2_with fail
    go_ret
    refine ⟨rfl, ⟨_, hx1.but_nil o2 hne, ho2⟩, ?_⟩
    exact (Old2.of_old ((Old.refl w).alloc _)).trans ((Old2.of1 o1).trans (Old2.of2 o2))
  | 1, _ =>
    go_enter Tryd.func37, Tryd.ntmps37
    go_wp2_with fail
    refine (Uint_any Hx.out byt_nil (by simp)).mono ?_
    rw [uint_nil]
    rintro r w1 ⟨rfl, hx1, o1⟩
    go_wp2_with fail
    refine (RUint_any (Ho.out.but_nil o1 (Ne.symm hne)) byt_nil (by simp)).mono ?_
    rw [uint_nil]
    rintro r w2 ⟨rfl, ho2, o2⟩
    go_wp2_with fail
    go_ret
    refine ⟨rfl, ⟨_, hx1.but_nil o2 hne, ho2⟩, ?_⟩
    exact (Old2.of_old ((Old.refl w).alloc _)).trans ((Old2.of1 o1).trans (Old2.of2 o2))
  | 2, _ =>
    go_enter Tryd.func37, Tryd.ntmps37
    go_wp2_with fail
    refine (Int_any Hx.out byt_nil (by simp)).mono ?_
    rw [uint_nil]
    rintro r w1 ⟨rfl, hx1, o1⟩
    go_wp2_with fail
    refine (RInt_any (Ho.out.but_nil o1 (Ne.symm hne)) byt_nil (by simp)).mono ?_
    rw [uint_nil]
    rintro r w2 ⟨rfl, ho2, o2⟩
    go_wp2_with fail
    go_ret
    refine ⟨rfl, ⟨_, hx1.but_nil o2 hne, ho2⟩, ?_⟩
    exact (Old2.of_old ((Old.refl w).alloc _)).trans ((Old2.of1 o1).trans (Old2.of2 o2))
  | 4, _ =>
    go_enter Tryd.func37, Tryd.ntmps37
    go_wp2_with fail
    refine (Take16_any Hx.out byt_nil (by simp)).mono ?_
    rw [take_nil]
    rintro r w1 ⟨rfl, hx1, o1⟩
    go_wp2_with fail
    refine (RFixed_any (Ho.out.but_nil o1 (Ne.symm hne)) byt_nil (by simp) 2 (by omega) (by omega)).mono ?_
    rw [take_nil]
    rintro r w2 ⟨rfl, ho2, o2⟩
    go_wp2_with fail
    go_ret
    refine ⟨rfl, ⟨_, hx1.but_nil o2 hne, ho2⟩, ?_⟩
    exact (Old2.of_old ((Old.refl w).alloc _)).trans ((Old2.of1 o1).trans (Old2.of2 o2))
  | 5, _ =>
    go_enter Tryd.func37, Tryd.ntmps37
    go_wp2_with fail
    refine (Take32_any Hx.out byt_nil (by simp)).mono ?_
    rw [take_nil]
    rintro r w1 ⟨rfl, hx1, o1⟩
    go_wp2_with fail
    refine (RFixed_any (Ho.out.but_nil o1 (Ne.symm hne)) byt_nil (by simp) 4 (by omega) (by omega)).mono ?_
    rw [take_nil]
    rintro r w2 ⟨rfl, ho2, o2⟩
    go_wp2_with fail
    go_ret
    refine ⟨rfl, ⟨_, hx1.but_nil o2 hne, ho2⟩, ?_⟩
    exact (Old2.of_old ((Old.refl w).alloc _)).trans ((Old2.of1 o1).trans (Old2.of2 o2))
  | 3, _ =>
    have hq1 : (w.alloc (.cells #[.int .i64 3, .int .i64 n] 66)).cell? ⟨w.heap.size, 1, none⟩ = some (.int .i64 n) := by simp [go_sem]
    have hbx : w.heap.size ≠ cx := by omega
    have hbo : w.heap.size ≠ co := by omega
    go_enter Tryd.func37, Tryd.ntmps37
    go_wp2_with fail
    go_region_held3 (fun w' => w'.cell? ⟨w.heap.size, 1, none⟩ = some (.int .i64 n)) (first | go_keep | exact o1.cell hq1 hbx | exact o2.cell (o1.cell hq1 hbx) hbo)
      (first
        | (go_at_call 51; refine (Index_any (Hx.out.old (Old.refl _).drew) byt_nil (by simp) n hn.1 hn.2).mono ?_; rw [index_nil]; rintro r w1 ⟨rfl, hx1, o1⟩)
        | (go_at_call 52; refine (RIndex_any ((Ho.out.old (Old.refl _).drew).but_nil o1 (Ne.symm hne)) byt_nil (by simp) n hn.1 hn.2).mono ?_; rw [index_nil]; rintro r w2 ⟨rfl, ho2, o2⟩))
    go_wp2_with fail
    go_ret
    refine ⟨rfl, ⟨_, hx1.but_nil o2 hne, ho2⟩, ?_⟩
    exact (Old2.of_old ((Old.refl w).alloc _).drew).trans ((Old2.of1 o1).trans (Old2.of2 o2))
  | 8, _ =>
    have hq1 : (w.alloc (.cells #[.int .i64 8, .int .i64 n] 66)).cell? ⟨w.heap.size, 1, none⟩ = some (.int .i64 n) := by simp [go_sem]
    have hbx : w.heap.size ≠ cx := by omega
    have hbo : w.heap.size ≠ co := by omega
    go_enter Tryd.func37, Tryd.ntmps37
    go_wp2_with fail
    go_region_held3 (fun w' => w'.cell? ⟨w.heap.size, 1, none⟩ = some (.int .i64 n)) (first | go_keep | exact o1.cell hq1 hbx | exact o2.cell (o1.cell hq1 hbx) hbo)
      (first
        | (go_at_call 34; refine (Text_any w0 hT ((ho0.alloc _).drew) hx0 (Hx.out.old (Old.refl _).drew) byt_nil (by simp) n hn.1 hn.2).mono ?_; rw [text_nil]; rintro r w1 ⟨rfl, hx1, o1⟩)
        | (go_at_call 55; refine (RText_any ((Ho.out.old (Old.refl _).drew).but_nil o1 (Ne.symm hne)) byt_nil (by simp) n hn.1 hn.2).mono ?_; rw [text_nil]; rintro r w2 ⟨rfl, ho2, o2⟩))
    go_wp2_with fail
    go_ret
    refine ⟨rfl, ⟨_, hx1.but_nil o2 hne, ho2⟩, ?_⟩
    exact (Old2.of_old ((Old.refl w).alloc _).drew).trans ((Old2.of1 o1).trans (Old2.of2 o2))
  | 6, _ =>
    have hq1 : (w.alloc (.cells #[.int .i64 6, .int .i64 n] 66)).cell? ⟨w.heap.size, 1, none⟩ = some (.int .i64 n) := by simp [go_sem]
    have hbx : w.heap.size ≠ cx := by omega
    have hbo : w.heap.size ≠ co := by omega
    go_enter Tryd.func37, Tryd.ntmps37
    go_wp2_with fail
    refine (Take_any Hx.out (by simp) n hn.1 hn.2).mono ?_
    rw [take_nil]
    rintro r w1 ⟨v, rfl, hv, hx1, o1⟩
    have hq2 := o1.cell hq1 hbx
    obtain ⟨av, cv, rfl, _, _⟩ := ownsRow_form hv
    go_wp2_with fail
    refine (RTake_any (Ho.out.but_nil o1 (Ne.symm hne)) (by simp) n hn.1 hn.2).mono ?_
    rw [take_nil]
    rintro r w2 ⟨v2, rfl, hv2, ho2, o2⟩
    go_wp2_with fail
    refine (same_any [] [] _ _ w2 ⟨_, _, 0, 0, rfl, by simp, by omega, by simp, by simp⟩ hv2.nums byt_nil byt_nil).mono ?_
    rw [eqL_self]
    rintro r w3 ⟨rfl, rfl⟩
    go_wp2_with fail
    go_loopw [86] (fun j wr => j = .int .i64 0 ∧ w2 = wr) (fun _ _ => 0)
    case atStart => exact ⟨rfl, by trivial⟩
    case round =>
      obtain ⟨rfl, rfl⟩ := hrel
      go_wp2_with fail
      go_ret
      refine ⟨rfl, ⟨_, hx1.but_nil o2 hne, ho2⟩, ?_⟩
      exact (Old2.of_old ((Old.refl w).alloc _)).trans ((Old2.of1 o1).trans (Old2.of2 o2))
  | 7, _ =>
    have hq1 : (w.alloc (.cells #[.int .i64 7, .int .i64 n] 66)).cell? ⟨w.heap.size, 1, none⟩ = some (.int .i64 n) := by simp [go_sem]
    have hbx : w.heap.size ≠ cx := by omega
    have hbo : w.heap.size ≠ co := by omega
    go_enter Tryd.func37, Tryd.ntmps37
    go_wp2_with fail
    refine (Bytes_any Hx.out byt_nil (by simp) n hn.1 hn.2).mono ?_
    rw [bytes_nil]
    rintro r w1 ⟨v, rfl, hv, hx1, o1⟩
    have hq2 := o1.cell hq1 hbx
    obtain ⟨av, cv, rfl, _, _⟩ := ownsRow_form hv
    go_wp2_with fail
    refine (RBytes_any (Ho.out.but_nil o1 (Ne.symm hne)) byt_nil (by simp) n hn.1 hn.2).mono ?_
    rw [bytes_nil]
    rintro r w2 ⟨v2, rfl, hv2, ho2, o2⟩
    go_wp2_with fail
    refine (same_any [] [] _ _ w2 ⟨_, _, 0, 0, rfl, by simp, by omega, by simp, by simp⟩ hv2.nums byt_nil byt_nil).mono ?_
    rw [eqL_self]
    rintro r w3 ⟨rfl, rfl⟩
    go_wp2_with fail
    go_loopw [111] (fun j wr => j = .int .i64 0 ∧ w2 = wr) (fun _ _ => 0)
    case atStart => exact ⟨rfl, by trivial⟩
    case round =>
      obtain ⟨rfl, rfl⟩ := hrel
      go_wp2_with fail
      go_ret
      refine ⟨rfl, ⟨_, hx1.but_nil o2 hne, ho2⟩, ?_⟩
      exact (Old2.of_old ((Old.refl w).alloc _)).trans ((Old2.of1 o1).trans (Old2.of2 o2))
  | k + 9, h => omega
end Go.Proofs.YtaclkoipobgmkaaDoor
