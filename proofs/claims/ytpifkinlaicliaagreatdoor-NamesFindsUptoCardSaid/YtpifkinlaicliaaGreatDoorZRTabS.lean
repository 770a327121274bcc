/-
  THE DOCUMENT's TABLE OF NAMES: Sorted, by laying each number into the row from its end on.
-/
import Derived.Test.YtpifkinlaicliaaGreatDoorZTextDigits
import Derived.Test.YtpifkinlaicliaaGreatDoorZShelfP
import Derived.Test.YtpifkinlaicliaaGreatDoorZTextRefI
import Derived.Test.YtpifkinlaicliaaGreatDoorZBools
import Derived.BigRegion
namespace Go.Proofs.YtpifkinlaicliaaGreatDoor
open Go.RowKit
attribute [local go_sem] Old.refl Old.alloc Old.drew Old.setCell OldW.old

/-- the row while i is laid into it: i stands behind A -/
def midL (A : List Nat) (i : Nat) (B : List Nat) : List Nat := A ++ i :: B
theorem ins_turn {c : Nat → Nat → Int} {A B : List Nat} {y i : Nat} (h : 0 < c y i) : (insRev c (A ++ [y]).reverse i).reverse ++ B = (insRev c A.reverse i).reverse ++ (y :: B) := by
  rw [List.reverse_append, List.reverse_singleton, List.singleton_append, insRev, if_pos h, List.reverse_cons, List.append_assoc]
  rfl
theorem ins_stop {c : Nat → Nat → Int} {A B : List Nat} {y i : Nat} (h : ¬ 0 < c y i) : (insRev c (A ++ [y]).reverse i).reverse ++ B = midL (A ++ [y]) i B := by
  rw [List.reverse_append, List.reverse_singleton, List.singleton_append, insRev, if_neg h]
  simp [midL]
theorem ins_none {c : Nat → Nat → Int} {B : List Nat} {i : Nat} : (insRev c [].reverse i).reverse ++ B = midL [] i B := rfl
theorem mid_at (A : List Nat) (i : Nat) (B : List Nat) : ix ((midL A i B).map Int.ofNat) A.length = (i : Int) := by simp [ix, midL, List.getD]
theorem mid_ahead (A : List Nat) (y i : Nat) (B : List Nat) : ix ((midL (A ++ [y]) i B).map Int.ofNat) A.length = (y : Int) := by simp [ix, midL, List.getD]
theorem mid_swap (A : List Nat) (y i : Nat) (B : List Nat) : (((midL (A ++ [y]) i B).map Int.ofNat).set A.length (i : Int)).set (A.length + 1) (y : Int) = (midL A i (y :: B)).map Int.ofNat := by
  simp [midL]
theorem mid_length (A : List Nat) (i : Nat) (B : List Nat) : ((midL A i B).map Int.ofNat).length = A.length + 1 + B.length := by simp [midL]; omega
theorem mid_last (A : List Nat) (i : Nat) : A.map Int.ofNat ++ [(i : Int)] = (midL A i []).map Int.ofNat := by simp [midL]
set_option maxRecDepth 100000 in
set_option maxHeartbeats 3200000 in
theorem RSorted_any (v : Value) (l : List ByteArray) (w : World) (hv : RTabV w v l) (hl : l.length ≤ 1048576) (hs : ∀ i, i < l.length → (nmAt l i).size ≤ 4194304) :
    Calls Tryz.prog 12 #[v] w fun e w' => RetI w w' e (sortedL l) ∧ Old w w' := by
  obtain ⟨u0, u1, rfl, h0, h1⟩ := hv
  obtain ⟨a0, cap0, rfl, hc1, hc2⟩ := h0.form
  obtain ⟨a1, cap1, rfl, _, _⟩ := h1.form
  have H0 := Lib.hid h0
  have hlm : (l.map nrm).length = l.length := List.length_map ..
  have ob : Old w (w.alloc (.cells #[.slice a0 l.length cap0, .slice a1 (l.map nrm).length cap1] 29)) := (Old.refl w).alloc _
  have k0 := later (show (w.alloc (.cells #[.slice a0 l.length cap0, .slice a1 (l.map nrm).length cap1] 29)).cell? ⟨w.heap.size, 0, none⟩ = some (.slice a0 l.length cap0) by simp [go_sem])
  have HC := Lib.hid (fun i j (hi : i < l.length) (hj : j < l.length) V => RCompare_any (nmAt l i) (nmAt l j) V (hs i hi) (hs j hj))
  have Hsort : Hid (sortedL l = sortTo (cN l) l.length) := Lib.hid rfl
  have Hlt := Lib.hid (fun n i (h : i ∈ sortTo (cN l) n) => sortTo_mem.1 h)
  have Hstep : Hid (∀ n, sortTo (cN l) (n + 1) = (insRev (cN l) (sortTo (cN l) n).reverse n).reverse) := Lib.hid (fun n => rfl)
  have Hlen := Lib.hid (fun n => sortTo_length (c := cN l) n)
  clear h0 h1 hs
  rw [hlm] at k0 ob
  go_enter Tryz.func12, Tryz.ntmps12
  rw [hlm]
  go_wp2_with fail
  generalize hW1 : w.alloc (.cells #[.slice a0 l.length cap0, .slice a1 l.length cap1] 29) = W1 at *
  clear hW1 hlm
  go_loopw [3, 9] (fun sv kv wr => ∃ i : Nat, kv = .int .i64 i ∧ i ≤ l.length ∧ OwnI 3 W1 wr sv ((sortTo (cN l) i).map Int.ofNat) ∧ Old W1 wr) (fun _ kv _ => l.length - (intOf kv).toNat)
  case atStart => exact ⟨0, rfl, Nat.zero_le _, OwnI.nil _ _ _, Old.refl _⟩
  case round =>
    obtain ⟨i, rfl, hi, hown, ho⟩ := hrel
    by_cases hlt : i < l.length
    · have hi1 : (i : Int) < l.length := by omega
      have hln : ((sortTo (cN l) i).map Int.ofNat).length = i := by rw [List.length_map]; exact Hlen.out i
      obtain ⟨a2, c2, rfl, hd1, hd2⟩ := ownsRow_form hown
      rw [hln] at hown hd1 ⊢
      have hwb : w.heap.size ≤ W1.heap.size := ob.size
      have how := OwnI.alloc hown (.cells #[.int .i64 (i : Int)] 3)
      have hos := ho.size
      go_upto_region 6 with (at_builtin; refine wpList_append_int1 (w0 := W1) rfl _ _ 36 rfl 3 Tryz.underlying36 infoInt _ _ rfl how wr.heap.size i rfl (by simp [go_sem]) (by rw [hln]; omega) (by simp; omega) ?_; intro v3 w3 hown3 hg3)
      have ho3 : Old W1 w3 := (ho.alloc _).grown hg3 (fun k e => (World.ownsRow.lt how k e).1)
      obtain ⟨a3, c3, rfl, he1, he2⟩ := ownsRow_form hown3
      rw [mid_last] at hown3 he1 ⊢
      have hl3 : ((midL (sortTo (cN l) i) i []).map Int.ofNat).length = i + 1 := by rw [mid_length, Hlen.out i]; rfl
      obtain ⟨g, rfl, hg1, hg2⟩ := hown3.block (by rw [hl3]; omega)
      rw [hl3] at hown3 he1 ⊢
      have hsub : IntKind.i64.wrap (((i + 1 : Nat) : Int) - 1) = (i : Int) := by rw [show ((i + 1 : Nat) : Int) - 1 = (i : Int) from by omega]; exact IntWalk.i64_in _ (by omega)
      have hsub' : IntKind.i64.wrap ((i : Int) + 1 - 1) = (i : Int) := by rw [show (i : Int) + 1 - 1 = (i : Int) from by omega]; exact IntWalk.i64_in _ (by omega)
      have HS3 := Lib.hid hown3
      have hi62 : i ≤ 1048576 := by omega
      clear hown hown3 hg3 hd1 hd2 hg2 how hos
      go_upto_region 7 with fail
      go_loopw [5] (fun kv wx => ∃ (k : Nat) (A B : List Nat), kv = .int .i64 k ∧ A.length = k ∧ k + B.length = i ∧ Hid (A ++ B = sortTo (cN l) i) ∧ Hid ((insRev (cN l) A.reverse i).reverse ++ B = sortTo (cN l) (i + 1)) ∧ OwnI 3 W1 wx (.slice (some ⟨g, 0, none⟩) (i + 1) c3) ((midL A i B).map Int.ofNat) ∧ Old W1 wx) (fun kv _ => (intOf kv).toNat)
      case atStart => exact ⟨i, sortTo (cN l) i, [], rfl, Hlen.out i, rfl, Lib.hid (List.append_nil _), Lib.hid ((List.append_nil _).trans (Hstep.out i).symm), HS3.out, ho3⟩
      case round =>
        clear HS3 ho3 ho hsub hsub'
        obtain ⟨k, A, B, rfl, hA, hB, hAB, hfin, hown, ho⟩ := hrel
        rcases List.eq_nil_or_concat A with rfl | ⟨A', y, rfl⟩
        · obtain rfl : k = 0 := hA.symm
          have hk0 : ¬ (0 : Int) < ((0 : Nat) : Int) := by decide
          have Hf := Lib.hid (hfin.out.symm.trans (ins_none (c := cN l) (B := B) (i := i)))
          have HO := Lib.hid hown
          clear hown hAB hfin hA
          go_upto_region 7 with fail
          refine wp_region_old (Old.refl _) (by kernel_rfl) (by kernel_rfl) ?_
          repeat (go_big_quiet_step (fail))
          refine wpQuiet_nil ?_
          rintro ⟨wq, hq⟩
          dsimp only
          go_wp2_with fail
          go_roundw
          case rel => exact ⟨i + 1, by go_num, by omega, by rw [Hf.out]; exact HO.out.old hq, ho.trans hq⟩
          case measure => simp [intOf]; omega
        · rw [List.concat_eq_append] at *
          obtain ⟨j, rfl⟩ : ∃ j, k = j + 1 := ⟨A'.length, by rw [List.length_append] at hA; exact hA.symm⟩
          have hj : A'.length = j := by rw [List.length_append] at hA; simpa using hA
          have hy : y < l.length := by
            have := Hlt.out i y (by rw [← hAB.out]; simp)
            omega
          have hk1 : (0 : Int) < ((j + 1 : Nat) : Int) := by omega
          have hw1 : IntKind.i64.wrap (((j + 1 : Nat) : Int) - 1) = (j : Int) := by rw [show ((j + 1 : Nat) : Int) - 1 = (j : Int) from by omega]; exact IntWalk.i64_in _ (by omega)
          have hw2 : IntKind.i64.wrap ((j : Int) + 1 - 1) = (j : Int) := by rw [show (j : Int) + 1 - 1 = (j : Int) from by omega]; exact IntWalk.i64_in _ (by omega)
          have hw3 : IntKind.i64.wrap (j : Int) = (j : Int) := IntWalk.i64_in _ (by omega)
          have hml := mid_length (A' ++ [y]) i B
          rw [List.length_append, hj] at hml
          have cy := later (hown.cell (k := j) (by rw [hml, show ([y] : List Nat).length = 1 from rfl]; omega))
          have ci := later (hown.cell (k := j + 1) (by rw [hml, show ([y] : List Nat).length = 1 from rfl]; omega))
          have e1 := mid_ahead A' y i B
          have e2 := mid_at (A' ++ [y]) i B
          rw [hj] at e1
          rw [List.length_append, hj] at e2
          rw [e1] at cy
          rw [show ([y] : List Nat).length = 1 from rfl] at e2
          rw [e2] at ci
          obtain ⟨bN, offN, capN, eN, _, _, hNy⟩ := H0.out.at' hy
          obtain ⟨rfl, _, rfl⟩ := Value.slice.inj eN
          obtain ⟨bM, offM, capM, eM, _, _, hNi⟩ := H0.out.at' hlt
          obtain ⟨eM1, _, _⟩ := Value.slice.inj eM
          obtain ⟨rfl, rfl⟩ : bN = bM ∧ offN = offM := by simpa using eM1
          have kNy := fun V (o : Old wr V) => hNy V ((ob.trans ho).trans o)
          have kNi := fun V (o : Old wr V) => hNi V ((ob.trans ho).trans o)
          have k0x := fun V (o : Old wr V) => k0 V (ho.trans o)
          have hyi : (y : Int) < l.length := by omega
          have hj1 : (j : Int) < (i : Int) + 1 := by omega
          have hj2 : (j : Int) + 1 < (i : Int) + 1 := by omega
          have HC1 := Lib.hid (fun V => HC.out y i hy hlt V)
          have HO := Lib.hid hown
          have Hz : Hid (compareT (nmAt l y) (nmAt l i) = cN l y i) := Lib.hid rfl
          rw [Hz.out] at HC1
          have Hturn := Lib.hid (fun h => (ins_turn (c := cN l) (A := A') (B := B) (y := y) (i := i) h).symm.trans hfin.out)
          have Hstop := Lib.hid (fun h => hfin.out.symm.trans (ins_stop (c := cN l) (A := A') (B := B) (y := y) (i := i) h))
          have Hswap := Lib.hid (mid_swap A' y i B)
          have HAB := Lib.hid (show A' ++ (y :: B) = sortTo (cN l) i by rw [← hAB.out]; simp)
          rw [hj] at Hswap
          clear eN eM eM1 hNy hNi hown hfin hAB Hz e1 e2
          generalize nmAt l y = ny at *
          generalize nmAt l i = ni at *
          generalize cN l y i = z at *
          go_upto_region 7 with fail
          refine wp_region_old (Old.refl _) (by kernel_rfl) (by kernel_rfl) ?_
          repeat (go_big_quiet_step (with_reducible exact Calls.in_old (HC1.out _)))
          refine wpQuiet_nil ?_
          rintro ⟨wq, hq⟩
          dsimp only
          have HOq := Lib.hid (HO.out.old hq)
          by_cases hz : 0 < z
          · have cyq := fun V (o : Old wq V) => cy V (hq.trans o)
            have ciq := fun V (o : Old wq V) => ci V (hq.trans o)
            clear cy ci kNy kNi k0x
            have cy0 := cyq wq (Old.refl _)
            have ci0 := ciq wq (Old.refl _)
            have fz := HOq.out.frozen
            have fj := fz j
            have fj1 := fz (j + 1)
            go_upto_region 9 with fail
            have S2 := Lib.hid ((HOq.out.stored j (i : Int)).stored (j + 1) (y : Int))
            rw [Hswap.out] at S2
            have hgo : W1.heap.size ≤ g := hg1
            have ow2 := Lib.hid (((ho.trans hq).setCell (p := ⟨g, j, none⟩) hgo (.int .i64 (i : Int))).setCell (p := ⟨g, j + 1, none⟩) hgo (.int .i64 (y : Int)))
            go_region
            all_goals
              go_wp2_with fail
              go_roundw
              case rel => exact ⟨j, A', y :: B, by first | rfl | go_num, hj, by simp; omega, HAB, Lib.hid (Hturn.out hz), S2.out, (by first | exact ow2.out | exact ow2.out.drew)⟩
              case measure => simp [intOf]; try omega
          · have hlast : (A' ++ [y]).length = j + 1 := by rw [List.length_append, hj]; rfl
            go_wp2_with fail
            go_roundw
            case rel => exact ⟨i + 1, by go_num, by omega, by rw [Hstop.out hz]; exact HOq.out, ho.trans hq⟩
            case measure => simp [intOf]; omega
    · obtain rfl : i = l.length := by omega
      have hi1 : ¬ (l.length : Int) < l.length := by omega
      have hln : ((sortTo (cN l) l.length).map Int.ofNat).length = l.length := by rw [List.length_map]; exact Hlen.out _
      obtain ⟨a2, c2, rfl, hd1, hd2⟩ := ownsRow_form hown
      rw [hln] at hown hd1 ⊢
      go_wp2_with fail
      go_ret
      exact ⟨⟨_, rfl, by rw [Hsort.out]; exact hown.lower ob.size⟩, ob.trans ho⟩
end Go.Proofs.YtpifkinlaicliaaGreatDoor
