/-
  LINK, A: whether a reference counts, what may be asked, lists alike, in new memory.
-/
import Derived.Test.YtkaoipegbjmlnaaDoorZLinkP
import Derived.Test.YtkaoipegbjmlnaaDoorZQuiet
import Derived.Test.YtkaoipegbjmlnaaDoorZNums
import Derived.Test.YtkaoipegbjmlnaaDoorProg
import Derived.Deep.DeepCutAuto
import Derived.StillTailTactics
namespace Go.Proofs.YtkaoipegbjmlnaaDoor
open Go.RowKit
attribute [local go_sem] Old.refl Old.alloc Old.drew Old.setCell OldW.old

def J64 (x : Int) : Prop := -9223372036854775808 ≤ x ∧ x ≤ 9223372036854775807
def rfV (x : Rfr) : Value := .agg #[.int .i64 x.f, .int .i64 x.t, .int .i64 x.n, .string x.s, .int .i64 x.l, .int .i64 x.c]
set_option maxRecDepth 100000 in
set_option maxHeartbeats 800000 in
theorem counts_any (x : Rfr) (tp : Int) (w : World) : Calls Tryd.prog 27 #[rfV x, .int .i64 tp] w fun e w' => e = .returned (.bool (cntR x tp)) ∧ Old w w' := by
  obtain ⟨xf, xt, xn, xs, xl, xc⟩ := x
  unfold rfV
  dsimp only
  have ho : ∀ o : Obj, Old w (w.alloc o) := fun o => (Old.refl w).alloc o
  obtain ⟨b1, q1⟩ : ∃ b, decide (0 ≤ xf) = b := ⟨_, rfl⟩
  obtain ⟨b2, q2⟩ : ∃ b, decide (xf < tp) = b := ⟨_, rfl⟩
  obtain ⟨b3, q3⟩ : ∃ b, decide (0 ≤ xt) = b := ⟨_, rfl⟩
  obtain ⟨b4, q4⟩ : ∃ b, decide (xt < tp) = b := ⟨_, rfl⟩
  have Hc := Lib.hid (show cntR ⟨xf, xt, xn, xs, xl, xc⟩ tp = (b1 && (b2 && (b3 && b4))) from by unfold cntR; rw [q1, q2, q3, q4])
  generalize cntR ⟨xf, xt, xn, xs, xl, xc⟩ tp = r at *
  cases b1 <;> cases b2 <;> cases b3
  all_goals
    go_enter Tryd.func27, Tryd.ntmps27
    go_wp2_with fail
    go_ret
    exact ⟨by rw [Hc.out]; rfl, ho _⟩
set_option maxRecDepth 100000 in
set_option maxHeartbeats 800000 in
theorem check_any (a : Option Addr) (n cap : Nat) (tp : Int) (v : Value) (l : List Int) (w : World) (hl : Ints w v l) :
    Calls Tryd.prog 26 #[.slice a n cap, .int .i64 tp, v] w fun e w' => e = .returned (.int .i64 (asksE n tp l)) ∧ w = w' := by
  obtain ⟨av, cv, bv, offv, rfl, hcv1, hcv2, hav, htv⟩ := hl
  have Hav := Lib.hid hav
  have Htv := Lib.hid htv
  clear hav htv
  by_cases h1 : 65536 < n
  · have hd : decide ((65536 : Int) < n) = true := by simp; omega
    have He := Lib.hid (show asksE n tp l = 2 from if_pos h1)
    clear h1
    go_enter Tryd.func26, Tryd.ntmps26
    go_wp2_with fail
    go_ret
    exact ⟨by rw [He.out]; rfl, by trivial⟩
  · have hd : decide ((65536 : Int) < n) = false := by simp; omega
    by_cases h2 : tp < 0 ∨ 1000 < tp
    · have He := Lib.hid (show asksE n tp l = 1 from by unfold asksE; rw [if_neg h1, if_pos h2])
      by_cases h3 : tp < 0
      · have hd3 : decide (tp < 0) = true := by simpa using h3
        clear h1 h2 h3
        go_enter Tryd.func26, Tryd.ntmps26
        go_wp2_with fail
        go_ret
        exact ⟨by rw [He.out]; rfl, by trivial⟩
      · have hd3 : decide (tp < 0) = false := by simpa using h3
        have hd4 : decide (1000 < tp) = true := by simp; omega
        clear h1 h2 h3
        go_enter Tryd.func26, Tryd.ntmps26
        go_wp2_with fail
        go_ret
        exact ⟨by rw [He.out]; rfl, by trivial⟩
    · have hd3 : decide (tp < 0) = false := by simp; omega
      have hd4 : decide (1000 < tp) = false := by simp; omega
      have He := Lib.hid (show asksE n tp l = if l.any (fun t => decide (t < 0) || decide (tp ≤ t)) = true then 1 else 0 from by unfold asksE; rw [if_neg h1, if_neg h2])
      clear h1 h2
      go_enter Tryd.func26, Tryd.ntmps26
      go_wp2_with fail
      go_loopw [20] (fun j wr => ∃ k : Nat, j = .int .i64 k ∧ k ≤ l.length ∧ (l.take k).any (fun t => decide (t < 0) || decide (tp ≤ t)) = false ∧ w = wr) (fun j _ => l.length - (intOf j).toNat)
      case atStart => exact ⟨0, rfl, Nat.zero_le _, rfl, by trivial⟩
      case round =>
        obtain ⟨k, rfl, hk, hany, rfl⟩ := hrel
        have Hany := Lib.hid hany
        clear hany
        by_cases hlt : k < l.length
        · have hi : (k : Int) < l.length := by omega
          obtain rfl := Hav.out (by omega)
          have c0 := Htv.out k hlt w (Old.refl w)
          have hx : l[k]? = some (ix l k) := by unfold ix; rw [List.getD_eq_getElem?_getD, List.getElem?_eq_getElem hlt]; rfl
          have Hmem := Lib.hid (List.mem_of_getElem? hx)
          have Hsn := Lib.hid (show (l.take (k + 1)).any (fun t => decide (t < 0) || decide (tp ≤ t)) = ((l.take k).any (fun t => decide (t < 0) || decide (tp ≤ t)) || (decide (ix l k < 0) || decide (tp ≤ ix l k))) from by
            rw [List.take_succ_eq_append_getElem hlt, List.any_append, (List.getElem?_eq_some_iff.1 hx).2]; simp)
          clear hx
          generalize ix l k = t at *
          by_cases hb : t < 0 ∨ tp ≤ t
          · have He1 := Lib.hid (show asksE n tp l = 1 from by
              rw [He.out, if_pos]
              exact List.any_eq_true.2 ⟨t, Hmem.out, by simpa using hb⟩)
            by_cases ht : t < 0
            · have hd5 : decide (t < 0) = true := by simpa using ht
              clear hb ht
              go_wp2_with fail
              go_ret
              exact ⟨by rw [He1.out]; rfl, by trivial⟩
            · have hd5 : decide (t < 0) = false := by simpa using ht
              have hd6 : decide (tp ≤ t) = true := by simp; omega
              clear hb ht
              go_wp2_with fail
              go_ret
              exact ⟨by rw [He1.out]; rfl, by trivial⟩
          · have hd5 : decide (t < 0) = false := by simp; omega
            have hd6 : decide (tp ≤ t) = false := by simp; omega
            have Hnx : Hid ((l.take (k + 1)).any (fun t => decide (t < 0) || decide (tp ≤ t)) = false) := by
              show _ = _
              rw [Hsn.out, Hany.out, hd5, hd6]; rfl
            clear hb
            go_wp2_with fail
            go_roundw
            case rel => exact ⟨k + 1, by go_num, by omega, Hnx.out, by trivial⟩
            case measure => simp [intOf]; omega
        · obtain rfl : k = l.length := by omega
          have h0 := Hany.out
          rw [List.take_length] at h0
          have He0 := Lib.hid (show asksE n tp l = 0 from by rw [He.out, h0]; rfl)
          clear h0
          go_wp2_with fail
          go_ret
          exact ⟨by rw [He0.out]; rfl, by trivial⟩
set_option maxRecDepth 100000 in
set_option maxHeartbeats 800000 in
theorem ints_any (u v : Value) (l m : List Int) (w : World) (hl : Ints w u l) (hm : Ints w v m) :
    Calls Tryd.prog 22 #[u, v] w fun e w' => e = .returned (.bool (decide (l = m))) ∧ Old w w' := by
  obtain ⟨a1, c1, b1, off1, rfl, hc11, hc12, ha1, ht1⟩ := hl
  obtain ⟨a2, c2, b2, off2, rfl, hc21, hc22, ha2, ht2⟩ := hm
  have Ha1 := Lib.hid ha1
  have Ht1 := Lib.hid ht1
  have Ha2 := Lib.hid ha2
  have Ht2 := Lib.hid ht2
  clear ha1 ht1 ha2 ht2
  by_cases hlen : l.length = m.length
  · have hb : ((l.length : Int) != m.length) = false := by rw [bne_eq_false_iff_eq]; omega
    have Hl := Lib.hid hlen
    have hlm : m.length ≤ l.length := by omega
    go_enter Tryd.func22, Tryd.ntmps22
    go_wp2_with fail
    go_loopw [5] (fun j wr => ∃ k : Nat, j = .int .i64 k ∧ k ≤ l.length ∧ l.take k = m.take k ∧ Old w wr) (fun j _ => l.length - (intOf j).toNat)
    case atStart => exact ⟨0, rfl, Nat.zero_le _, rfl, Old.refl _⟩
    case round =>
      obtain ⟨k, rfl, hk, heq, ho⟩ := hrel
      have Heq := Lib.hid heq
      clear heq
      by_cases hlt : k < l.length
      · have hi : (k : Int) < l.length := by omega
        have hi2 : (k : Int) < m.length := by have := Hl.out; omega
        have hm2 : k < m.length := by have := Hl.out; omega
        obtain rfl := Ha1.out (by omega)
        obtain rfl := Ha2.out (by omega)
        have k1 := fun V (o : Old wr V) => Ht1.out k hlt V (ho.trans o)
        have k2 := fun V (o : Old wr V) => Ht2.out k hm2 V (ho.trans o)
        have hx : l[k]? = some (ix l k) := by unfold ix; rw [List.getD_eq_getElem?_getD, List.getElem?_eq_getElem hlt]; rfl
        have hy : m[k]? = some (ix m k) := by unfold ix; rw [List.getD_eq_getElem?_getD, List.getElem?_eq_getElem hm2]; rfl
        have Hsn : Hid (ix l k = ix m k → l.take (k + 1) = m.take (k + 1)) := fun e => by
          rw [List.take_succ_eq_append_getElem hlt, List.take_succ_eq_append_getElem hm2, Heq.out, (List.getElem?_eq_some_iff.1 hx).2, (List.getElem?_eq_some_iff.1 hy).2, e]
        have Hno : Hid (ix l k ≠ ix m k → l ≠ m) := fun e h => e (by rw [h])
        clear hx hy
        generalize ix l k = x at *
        generalize ix m k = y at *
        go_upto_region 6 with fail
        refine wp_region_old (Old.refl _) (by kernel_rfl) (by kernel_rfl) ?_
        repeat (go_big_quiet_step (fail))
        refine wpQuiet_nil ?_
        rintro ⟨wq, hwq⟩
        dsimp only
        by_cases e : x = y
        · have hb2 : (x != y) = false := by rw [bne_eq_false_iff_eq]; exact e
          have Hs := Lib.hid (Hsn.out e)
          clear e
          go_wp2_with fail
          go_roundw
          case rel => exact ⟨k + 1, by go_num, by omega, Hs.out, ho.trans hwq⟩
          case measure => simp [intOf]; omega
        · have hb2 : (x != y) = true := by rw [bne_iff_ne]; exact e
          have Hs := Lib.hid (Hno.out e)
          clear e
          go_wp2_with fail
          go_ret
          exact ⟨by rw [decide_eq_false Hs.out]; rfl, ho.trans hwq⟩
      · obtain rfl : k = l.length := by omega
        have Hs : Hid (l = m) := by
          have h := Heq.out
          rw [List.take_length, Hl.out, List.take_length] at h
          exact h
        have hi : ¬ (l.length : Int) < l.length := by omega
        go_wp2_with fail
        go_ret
        exact ⟨by rw [decide_eq_true Hs.out]; rfl, ho⟩
  · have hb : ((l.length : Int) != m.length) = true := by rw [bne_iff_ne]; omega
    have Hs := Lib.hid (show l ≠ m from fun e => hlen (by rw [e]))
    clear hlen
    go_enter Tryd.func22, Tryd.ntmps22
    go_wp2_with fail
    go_ret
    exact ⟨by rw [decide_eq_false Hs.out]; rfl, Old.refl _⟩
end Go.Proofs.YtkaoipegbjmlnaaDoor
