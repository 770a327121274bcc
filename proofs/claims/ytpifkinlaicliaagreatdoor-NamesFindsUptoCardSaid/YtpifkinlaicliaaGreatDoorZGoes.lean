/-
  goes: what is told name by name, when one leaves early, and goes over it again.
-/
import Derived.Test.YtpifkinlaicliaaGreatDoorZTextDigits
import Derived.Test.YtpifkinlaicliaaGreatDoorZRTabS
import Derived.Test.YtpifkinlaicliaaGreatDoorZNear
namespace Go.Proofs.YtpifkinlaicliaaGreatDoor
open Go.RowKit
attribute [local go_sem] Old.refl Old.alloc Old.drew Old.setCell OldW.old Oper.semAt_some

theorem run_equalIn_func_nilG {P : Program} (w : World) (d : Nat) (t : TypeId) {ps rs : Array TypeId} {v : Bool} (f : Fn) (ps1 bs : Array Value) (h : P.underlying t = some (.func ps rs v)) :
    (Op.equalIn (d + 1) t (.func f ps1 bs) .nilFunc).run P w = .ok false w := by simp [Op.equalIn, run_underlying h]
theorem run_eql_func_nilG {P : Program} (w : World) (t : TypeId) {ps rs : Array TypeId} {v : Bool} (f : Fn) (ps1 bs : Array Value) (h : P.underlying t = some (.func ps rs v)) :
    (binOp .eql t (.func f ps1 bs) .nilFunc).run P w = .ok (.bool false) w := by
  simp only [binOp]
  simp [Op.equal, Op.maxDepth, run_equalIn_func_nilG w 9999 t f ps1 bs h]
theorem not_beg {sl pre : List Nat} {x : Nat} (h : ¬ (pre.length < sl.length ∧ sl.getD pre.length 0 = x)) : ¬ ∃ k, pre ++ [x] = sl.take k := by
  rintro ⟨k, e⟩
  have hl := congrArg List.length e
  rw [List.length_append, List.length_take, List.length_singleton] at hl
  have hg : (pre ++ [x])[pre.length]? = (sl.take k)[pre.length]? := by rw [e]
  rw [List.getElem?_take_of_lt (by omega), List.getElem?_append_right (Nat.le_refl _), Nat.sub_self] at hg
  exact h ⟨by omega, by rw [List.getD, ← hg]; rfl⟩
set_option maxRecDepth 100000 in
set_option maxHeartbeats 3200000 in
theorem goes_any (p : Option Addr) (v : Value) (l : List ByteArray) (hl : Named l) (w : World) (hT : Tabs w) (h : Hdl w p l) (k : RTabV w v l) :
    Calls Tryz.prog 19 #[.pointer p, v] w fun e w' => e = .returned (.bool true) ∧ Old w w' := by
  have hlen := hl.len
  obtain ⟨u0, u1, rfl, h0, h1⟩ := k
  obtain ⟨a0, cap0, rfl, hc1, hc2⟩ := h0.form
  obtain ⟨a1, cap1, rfl, hc3, hc4⟩ := h1.form
  have hlm : (l.map nrm).length = l.length := List.length_map ..
  rw [hlm] at hc3
  have HS := Lib.hid (fun V (o : Old w V) => RSorted_any (.agg #[.slice a0 l.length cap0, .slice a1 (l.map nrm).length cap1]) l V ⟨_, _, rfl, h0.old o, h1.old o⟩ (by omega) (fun i hi => by have := (hl.at hi).2.1; omega))
  have H0 := Lib.hid h0
  have HT := Lib.hid hT
  have HH := Lib.hid h
  have Hl := Lib.hid hl
  have hfn := fun (w : World) f ps1 bs => run_eql_func_nilG w 69 f ps1 bs Tryz.underlying69
  have Hsl := Lib.hid (fun i (h : i ∈ sortedL l) => sortedL_lt h)
  have hsn := sortedL_length l
  have hl3 : ((sortedL l).map Int.ofNat).length = l.length := by rw [List.length_map, hsn]
  have ob : Old w (w.alloc (.cells #[.slice a0 l.length cap0, .slice a1 l.length cap1] 29)) := (Old.refl w).alloc _
  have k0 := later (show (w.alloc (.cells #[.slice a0 l.length cap0, .slice a1 l.length cap1] 29)).cell? ⟨w.heap.size, 0, none⟩ = some (.slice a0 l.length cap0) by simp [go_sem])
  have k1 := later (show (w.alloc (.cells #[.slice a0 l.length cap0, .slice a1 l.length cap1] 29)).cell? ⟨w.heap.size, 1, none⟩ = some (.slice a1 l.length cap1) by simp [go_sem])
  clear hT h h0 h1 hl
  rw [hlm] at HS ⊢
  refine (callsIn_wide (n := 9)).1 ?_
  refine callsIn_of_wp_marks Tryz.func19 rfl trivial ?_ rfl
  simp only [Tryz.ntmps19, List.size_toArray, List.length_cons, List.length_nil, Nat.reduceAdd, Nat.reduceSub, Array.replicate_succ, Array.replicate_zero, List.push_toArray, List.append_toArray, List.nil_append, List.cons_append]
  refine wpIn_wide.2 ?_
  go_upto_region 4 with (first
    | (go_at_call 34; refine (Each_any _ _).mono ?_; rintro e w3 ⟨rfl, rfl⟩))
  have bR : Boxed (((w.alloc (.cells #[.slice a0 l.length cap0, .slice a1 l.length cap1] 29)).alloc (.cells #[.bool false] 4)).alloc (.cells #[.pointer p] 24)) (w.heap.size + 1) 4 (.bool false) := by
    have h1 := Boxed.new (w.alloc (.cells #[.slice a0 l.length cap0, .slice a1 l.length cap1] 29)) 4 (.bool false)
    rw [World.size_alloc] at h1
    exact h1.alloc _
  have cx : (((w.alloc (.cells #[.slice a0 l.length cap0, .slice a1 l.length cap1] 29)).alloc (.cells #[.bool false] 4)).alloc (.cells #[.pointer p] 24)).cell? ⟨w.heap.size + 1 + 1, 0, none⟩ = some (.pointer p) := by simp [go_sem]
  have o13 : Old (w.alloc (.cells #[.slice a0 l.length cap0, .slice a1 l.length cap1] 29)) (((w.alloc (.cells #[.slice a0 l.length cap0, .slice a1 l.length cap1] 29)).alloc (.cells #[.bool false] 4)).alloc (.cells #[.pointer p] 24)) := ((Old.refl _).alloc _).alloc _
  have hs3 : (((w.alloc (.cells #[.slice a0 l.length cap0, .slice a1 l.length cap1] 29)).alloc (.cells #[.bool false] 4)).alloc (.cells #[.pointer p] 24)).heap.size = w.heap.size + 1 + 1 + 1 := by simp
  have ow3 := ob.trans o13
  have k03 := fun V (o : Old (((w.alloc (.cells #[.slice a0 l.length cap0, .slice a1 l.length cap1] 29)).alloc (.cells #[.bool false] 4)).alloc (.cells #[.pointer p] 24)) V) => k0 V (o13.trans o)
  have k13 := fun V (o : Old (((w.alloc (.cells #[.slice a0 l.length cap0, .slice a1 l.length cap1] 29)).alloc (.cells #[.bool false] 4)).alloc (.cells #[.pointer p] 24)) V) => k1 V (o13.trans o)
  clear k0 k1 o13
  generalize (((w.alloc (.cells #[.slice a0 l.length cap0, .slice a1 l.length cap1] 29)).alloc (.cells #[.bool false] 4)).alloc (.cells #[.pointer p] 24)) = W3 at *
  go_upto_region 5 with (go_at_call 12; refine (HS.out _ ow3).mono ?_; rintro e w4 ⟨⟨y4, rfl, hy4⟩, o4⟩; obtain ⟨a4, c4, rfl, he1, he2⟩ := ownsRow_form hy4; rw [hl3] at hy4 he1 ⊢)
  have bO : Boxed (w4.alloc (.cells #[.slice a4 l.length c4] 36)) w4.heap.size 36 (.slice a4 l.length c4) := Boxed.new w4 36 (.slice a4 l.length c4)
  have o45 : Old w4 (w4.alloc (.cells #[.slice a4 l.length c4] 36)) := (Old.refl _).alloc _
  have hs5 : (w4.alloc (.cells #[.slice a4 l.length c4] 36)).heap.size = w4.heap.size + 1 := by simp
  have hs34 := o4.size
  have ow5 := (ow3.trans o4).trans o45
  have bR5 : Boxed (w4.alloc (.cells #[.slice a4 l.length c4] 36)) (w.heap.size + 1) 4 (.bool false) := ((o4.trans o45).block _ (by omega)).trans bR
  have cx5 := (o4.trans o45).cell cx
  have k05 := fun V (o : Old (w4.alloc (.cells #[.slice a4 l.length c4] 36)) V) => k03 V ((o4.trans o45).trans o)
  have k15 := fun V (o : Old (w4.alloc (.cells #[.slice a4 l.length c4] 36)) V) => k13 V ((o4.trans o45).trans o)
  have HI := Lib.hid (hy4.ints.old o45)
  clear hy4 k03 k13 bR cx o45 ow3
  generalize (w4.alloc (.cells #[.slice a4 l.length c4] 36)) = W5 at *
  generalize hbo : w4.heap.size = bo at *
  generalize hbt : w.heap.size = bt at *
  have hown5 : ownOf (bt + 1) W5 = none := by unfold ownOf; rw [bR5.cell]; rfl
  go_wp2_with fail
  refine (wpIn_wide (n := 9)).1 ?_
  refine wpIn_rangeFunc_ownF (F := Fence.wide) (n := 9) rfl (by decide) (gf := 66) (lb := #[.pointer (some ⟨bt + 1 + 1, 0, none⟩)]) rfl trivial (enters_of Tryz.func66 (by kernel_rfl) rfl)
    (Each1_prefix 8 p l Hl.out w W5 W5.heap.size (bt + 1) (bt + 1) (bt + 1 + 1) HH.out HT.out ow5 (Nat.le_refl _) (by omega) (by omega) (by omega) (by omega) (by omega) (by omega) (by omega) (by omega) cx5 hown5)
    KpR.trans (KpR.putObj (Nat.le_refl _) (by omega)) (Below.refl _ _) (fun _ => rfl) (fun _ W => Below W5.heap.size W5 W) (fun c _ W => c = .exit 0 ∧ Below W5.heap.size W5 W)
    (ownFrom_below (Nat.le_refl _) (Nat.le_refl _)) (fun c s W W' row hs hg hr => ⟨hs.1, ownFrom_below (Nat.le_refl _) (Nat.le_refl _) s W W' row hs.2 hg hr⟩) (Below.refl _ _) (fun x => { tmps := #[.pointer p, .agg #[.slice a0 l.length cap0, .slice a1 l.length cap1], undef, .pointer (some ⟨bt, 0, none⟩), .pointer (some ⟨bt + 1, 0, none⟩), .func (.func 66) #[] #[.pointer (some ⟨bt + 1 + 1, 0, none⟩)], .pointer (some ⟨bo, 0, none⟩), undef, undef, undef, .pointer p, .func (.func 66) #[] #[.pointer (some ⟨bt + 1 + 1, 0, none⟩)], .func (.func 66) #[] #[.pointer (some ⟨bt + 1 + 1, 0, none⟩)], .bool false, .agg #[.slice a0 l.length cap0, .slice a1 l.length cap1], .slice a4 l.length c4, .func (.func 66) #[] #[.pointer (some ⟨bt + 1 + 1, 0, none⟩)], .int .i64 x.val, .string (nmAt l x.val), undef, undef, undef, undef, undef, undef, undef, undef, undef, undef, undef, undef, undef, undef, undef, undef, undef, undef, undef, undef, undef, undef, undef, undef, undef, undef, undef, undef, undef, undef], defers := [] }) ?assign ?body ?done ?stop
  case assign =>
    intro y x W K hK
    unfold nmV
    gi_wp2
    exact hK
  case body =>
    rintro y pre ⟨x, hx⟩ W hI hpl
    gi_wp2
    exact ⟨KeepsOthers.refl _, rfl, hI⟩
  case' done => rintro D xs U hD hxs hk hK
  case' stop =>
    rintro D c pre U hD hSp ⟨rfl, hk⟩ hK
    gi_wp2
  all_goals
    have ok : Old W5 U := hk
    have ow6 := ow5.trans ok
    have bR6 : Boxed (U.alloc (.cells #[.int .i64 0] 3)) (bt + 1) 4 (.bool false) := Boxed.alloc ((ok.block _ bR5.lt).trans bR5) _
    have bO6 : Boxed (U.alloc (.cells #[.int .i64 0] 3)) bo 36 (.slice a4 l.length c4) := Boxed.alloc ((ok.block _ bO.lt).trans bO) _
    have bN6 : Boxed (U.alloc (.cells #[.int .i64 0] 3)) U.heap.size 3 (.int .i64 0) := Boxed.new U 3 (.int .i64 0)
    have o56 : Old W5 (U.alloc (.cells #[.int .i64 0] 3)) := ok.alloc _
    have cx6 := o56.cell cx5
    have hs6 : (U.alloc (.cells #[.int .i64 0] 3)).heap.size = U.heap.size + 1 := by simp
    have hsU := ok.size
    have hK6 : (U.alloc (.cells #[.int .i64 0] 3)).heap[D]? = some (.deferred (some [])) := (((Old.refl U).alloc _).block D (lt_of_heap hK)).trans hK
    have hDU := lt_of_heap hK
    have ow7 := ow5.trans o56
    clear hk ok bR5 bO hK ow6
    go_wp2_with fail
    generalize (U.alloc (.cells #[.int .i64 0] 3)) = W6 at *
    generalize hbn : U.heap.size = bn at *
    have hown6 : ownOf bn W6 = none := by unfold ownOf; rw [bN6.cell]; rfl
    have cT6 := k05 W6 o56
    refine (wpIn_wide (n := 9)).1 ?_
    refine wpIn_rangeFunc_ownF (F := Fence.wide) (n := 9) rfl (by decide) (gf := 66) (lb := #[.pointer (some ⟨bt + 1 + 1, 0, none⟩)]) rfl trivial (enters_of Tryz.func66 (by kernel_rfl) rfl)
      (Each1_prefix 8 p l Hl.out w W6 W6.heap.size bn bn (bt + 1 + 1) HH.out HT.out ow7 (Nat.le_refl _) (by omega) (by omega) (by omega) (by omega) (by omega) (by omega) (by omega) (by omega) cx6 hown6)
      KpR.trans (KpR.putObj (Nat.le_refl _) (by omega)) (Below.refl _ _) (fun _ => rfl)
      (fun pre W => (Boxed W bn 3 (.int .i64 (pre.length : Nat)) ∧ pre.map Fin.val = (sortedL l).take pre.length) ∧ KpR W6.heap.size bn bn W6 W)
      (fun c pre _ => c = .ret ∧ ¬ ∃ k, pre.map Fin.val = (sortedL l).take k)
      (OwnFrom.and (OwnFrom.and ownFrom_boxed (fun _ _ _ _ hs _ _ => hs)) (ownFrom_kpr (Nat.le_refl _) (by omega) (Nat.le_refl _))) (fun c s W W' row hs _ _ => hs) ⟨⟨bN6, rfl⟩, KpR.refl _ _ _ _⟩
      (fun x => { tmps := #[.pointer p, .agg #[.slice a0 l.length cap0, .slice a1 l.length cap1], undef, .pointer (some ⟨bt, 0, none⟩), .pointer (some ⟨bt + 1, 0, none⟩), .func (.func 66) #[] #[.pointer (some ⟨bt + 1 + 1, 0, none⟩)], .pointer (some ⟨bo, 0, none⟩), .pointer (some ⟨bn, 0, none⟩), .int .i64 x.val, .string (nmAt l x.val), .pointer p, .func (.func 66) #[] #[.pointer (some ⟨bt + 1 + 1, 0, none⟩)], .func (.func 66) #[] #[.pointer (some ⟨bt + 1 + 1, 0, none⟩)], .bool false, .agg #[.slice a0 l.length cap0, .slice a1 l.length cap1], .slice a4 l.length c4, .func (.func 66) #[] #[.pointer (some ⟨bt + 1 + 1, 0, none⟩)], undef, undef, .func (.func 66) #[] #[.pointer (some ⟨bt + 1 + 1, 0, none⟩)], .int .i64 x.val, .string (nmAt l x.val), undef, undef, undef, undef, undef, undef, undef, undef, undef, undef, undef, undef, undef, undef, undef, undef, undef, undef, undef, undef, undef, undef, undef, undef, undef, undef, undef], defers := [] }) ?_ ?_ ?_ ?_
    · intro y x W K hK
      unfold nmV
      gi_wp2
      exact hK
    · rintro y pre ⟨x, hx⟩ W ⟨⟨hbn', hpre⟩, hkp⟩ hpl
      have cN := hbn'.cell
      have fN := hbn'.frozen
      have cO := (hkp.cell (p := ⟨bo, 0, none⟩) (by simp; omega) (by simp; omega) (by simp; omega)).trans bO6.cell
      have cT := (hkp.cell (p := ⟨bt, 0, none⟩) (by simp; omega) (by simp; omega) (by simp; omega)).trans cT6
      have bRW : Boxed W (bt + 1) 4 (.bool false) := (hkp.low (bt + 1) (by omega) (by omega) (by omega)).trans bR6
      have fR := bRW.frozen
      have cR := bRW.cell
      have o5W : Old W5 W := hkp.old o56 (by omega) (by omega) (by omega)
      have owW := ow5.trans o5W
      have hxi : (x : Int) < l.length := by omega
      obtain ⟨bM, offM, capM, eM, _, _, hNx⟩ := H0.out.at' hx
      obtain ⟨rfl, hxM, rfl⟩ := Value.slice.inj eM
      have kN := hNx W owW
      clear hNx eM hxM
      by_cases hlt : pre.length < l.length
      · have hi1 : ¬ (l.length : Int) ≤ pre.length := by omega
        have hi2 : (pre.length : Int) < l.length := by omega
        obtain ⟨_, _, b7, off7, e7, _, _, ha7, ht7⟩ := HI.out
        obtain ⟨rfl, hx7, rfl⟩ := Value.slice.inj e7
        obtain rfl := ha7 (by rw [hl3]; omega)
        have c7 := ht7 pre.length (by rw [hl3]; exact hlt) _ o5W
        rw [show ix ((sortedL l).map Int.ofNat) pre.length = ((sortedL l).getD pre.length 0 : Nat) from by simp [ix, List.getD, show pre.length < (sortedL l).length from by omega]] at c7
        have Hsn := Lib.hid (take_snoc (l := sortedL l) (k := pre.length) (by omega))
        have Hpre := Lib.hid hpre
        clear e7 ha7 ht7 hx7 hpre
        by_cases hz : (sortedL l).getD pre.length 0 = x
        · rw [hz] at c7
          have Hp : Hid ((pre ++ [(⟨x, hx⟩ : Fin l.length)]).map Fin.val = (sortedL l).take (pre ++ [(⟨x, hx⟩ : Fin l.length)]).length) := Lib.hid (by rw [List.length_append, List.map_append, Hpre.out]; exact (Hsn.out.trans (by rw [hz]; rfl)).symm)
          have hwn : IntKind.i64.wrap ((pre.length : Int) + 1) = ((pre ++ [(⟨x, hx⟩ : Fin l.length)]).length : Nat) := by rw [IntWalk.i64_in _ (by omega), List.length_append]; rfl
          have hss : ((nmAt l x).toList != (nmAt l x).toList) = false := by simp
          have hnx : ((x : Int) != (x : Int)) = false := by simp
          have Hb := Lib.hid (hbn'.set (.int .i64 ((pre ++ [(⟨x, hx⟩ : Fin l.length)]).length : Nat)))
          have Hk := Lib.hid (KpR.set2 (n := W6.heap.size) (b1 := bn) W (.int .i64 ((pre ++ [(⟨x, hx⟩ : Fin l.length)]).length : Nat)) cN rfl)
          generalize hm : (pre ++ [(⟨x, hx⟩ : Fin l.length)]).length = m at *
          have Hm := Lib.hid hm
          generalize nmAt l x = s at *
          clear hz Hsn hs6 hm
          gi_wp2
          obtain rfl := Hm.out
          exact ⟨KeepsOthers.setCell _ _ _, Hk.out, ⟨⟨Hb.out, Hp.out⟩, hkp.trans Hk.out⟩⟩
        · have hno := not_beg (sl := sortedL l) (pre := pre.map Fin.val) (x := x) (by rw [List.length_map]; exact fun h => hz h.2)
          have Hno : Hid (¬ ∃ k, (pre ++ [(⟨x, hx⟩ : Fin l.length)]).map Fin.val = (sortedL l).take k) := Lib.hid (by rw [List.map_append]; exact hno)
          generalize (sortedL l).getD pre.length 0 = z at *
          have hnx : ((x : Int) != (z : Int)) = true := by
            have : ¬ (x : Int) = z := fun e => hz (by omega)
            simpa using this
          generalize nmAt l x = s at *
          clear hz Hsn hs6 hno
          gi_wp2
          exact ⟨KeepsOthers.setCell _ _ _, rfl, by first | exact Hno.out | simpa using Hno.out⟩
      · have hi1 : (l.length : Int) ≤ pre.length := by omega
        have hno := not_beg (sl := sortedL l) (pre := pre.map Fin.val) (x := x) (by rw [List.length_map]; exact fun h => hlt (by omega))
        have Hno : Hid (¬ ∃ k, (pre ++ [(⟨x, hx⟩ : Fin l.length)]).map Fin.val = (sortedL l).take k) := Lib.hid (by rw [List.map_append]; exact hno)
        generalize nmAt l x = s at *
        clear hs6 hno hpre
        gi_wp2
        exact ⟨KeepsOthers.setCell _ _ _, rfl, by first | exact Hno.out | simpa using Hno.out⟩
    rotate_left
    · rintro D2 c pre U2 hD2 hSp ⟨_, hno⟩ _
      exact absurd hSp hno
    · rintro D2 xs U2 hD2 hxs ⟨⟨hbn', hpre⟩, hkp⟩ hK2
      have hxl : xs.length = l.length := by have := congrArg List.length hxs; rw [List.length_map, hsn] at this; exact this
      rw [hxl] at hbn'
      have cN := hbn'.cell
      have cO := (hkp.cell (p := ⟨bo, 0, none⟩) (by simp; omega) (by simp; omega) (by simp; omega)).trans bO6.cell
      have bRW : Boxed U2 (bt + 1) 4 (.bool false) := (hkp.low (bt + 1) (by omega) (by omega) (by omega)).trans bR6
      have fR := bRW.frozen
      have cR := bRW.cell
      have hK6' : U2.heap[D]? = some (.deferred (some [])) := (hkp.low D (by omega) (by omega) (by omega)).trans hK6
      have o5W : Old W5 U2 := hkp.old o56 (by omega) (by omega) (by omega)
      have owW := ow5.trans o5W
      have hll : ((l.length : Int) == (l.length : Int)) = true := by simp
      have hD2l := lt_of_heap hK2
      have hbD : bt + 1 ≠ D := by
        intro e
        have h1 : U2.heap[bt + 1]? = _ := bRW
        rw [e, hK6'] at h1
        cases h1
      have hbD2 : bt + 1 ≠ D2 := by omega
      have hDD2 : D ≠ D2 := by omega
      have hwD : w.heap.size ≤ D := by omega
      have hwD2 : w.heap.size ≤ D2 := by omega
      have b5 := Boxed.set (.bool true) bRW
      have O5 : Old w (U2.setCell ⟨bt + 1, 0, none⟩ (.bool true)) := owW.setCell (by show w.heap.size ≤ bt + 1; omega) _
      have hK9 : (U2.setCell ⟨bt + 1, 0, none⟩ (.bool true)).heap[D]? = some (.deferred (some [])) := (heap_setCell_ne _ _ _ _ (Ne.symm hbD)).trans hK6'
      have hK8 : (U2.setCell ⟨bt + 1, 0, none⟩ (.bool true)).heap[D2]? = some (.deferred (some [])) := (heap_setCell_ne _ _ _ _ (Ne.symm hbD2)).trans hK2
      clear hxs hpre hxl hs6
      go_wp2_with fail
      generalize hw9 : U2.setCell ⟨bt + 1, 0, none⟩ (.bool true) = w9 at *
      refine ⟨by simp, .inl ⟨_, _, rfl, run_takeDeferred hK8, ?_⟩⟩
      have hK7 : (w9.putObj D2 (.deferred none)).heap[D]? = some (.deferred (some [])) := (World.putObj_heap_other hDD2).trans hK9
      have O7 : Old w (w9.putObj D2 (.deferred none)) := O5.grown (grownBy_putObj' _ _ _) (fun k e => by have := Option.some.inj e; omega)
      have b7 : Boxed (w9.putObj D2 (.deferred none)) (bt + 1) 4 (.bool true) := (World.putObj_heap_other hbD2).trans b5
      refine ⟨by simp, .inl ⟨_, _, rfl, run_takeDeferred hK7, ?_⟩⟩
      generalize w9.putObj D2 (.deferred none) = w7 at *
      have O6 : Old w (w7.putObj D (.deferred none)) := O7.grown (grownBy_putObj' _ _ _) (fun k e => by have := Option.some.inj e; omega)
      have b6 : Boxed (w7.putObj D (.deferred none)) (bt + 1) 4 (.bool true) := (World.putObj_heap_other hbD).trans b7
      generalize w7.putObj D (.deferred none) = w6 at *
      have c6 := b6.cell
      refine ⟨.bool true, by simp [results, Tryz.results19, go_sem, c6], ?_⟩
      exact ⟨rfl, O6⟩
end Go.Proofs.YtpifkinlaicliaaGreatDoor
