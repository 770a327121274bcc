/-
  OCTET, WALKS K: a text that may be, a text taken: the program's and the document's.
-/
import Derived.Test.YtaclkoipobgmkaaDoorOctRefC
import Derived.Test.YtaclkoipobgmkaaDoorTextRefA
namespace Go.Proofs.YtaclkoipobgmkaaDoor
open Go.RowKit
attribute [local go_sem] Old.refl Old.alloc Old.drew Old.setCell OldW.old

variable {l : List Int} {p c : Nat} {e : Int} {w : World}
theorem RMay_any (s : ByteArray) (w : World) (hs : s.size * 32 ≤ 140737488355328) :
    Calls Tryd.prog 20 #[.string s] w fun e w' => e = .returned (.bool (plainAt s.data.toList 0).2) ∧ Old w w' := by
  have Hc := Lib.hid (RPlain_any s w hs)
  go_enter Tryd.func20, Tryd.ntmps20
  go_wp2_with (go_at_call 45; refine Hc.out.mono ?_; rintro e w1 ⟨rfl, ho⟩)
  go_ret
  exact ⟨rfl, ho⟩
def mayL (L : List Int) : Bool := (plainAt (strOfNums L).data.toList 0).2
/-- what Text answers, where the cursor stands then, its error then -/
def textC (l : List Int) (p : Nat) (e lim : Int) : ByteArray × Nat × Int :=
  if (bytesC l p e lim).2.2 = 0 ∧ mayL (bytesC l p e lim).1 = false then (⟨#[]⟩, p, 32) else (strOfNums (bytesC l p e lim).1, (bytesC l p e lim).2)
theorem textC_no {l : List Int} {p : Nat} {e lim : Int} (h : (bytesC l p e lim).2.2 = 0) (h' : mayL (bytesC l p e lim).1 = false) : textC l p e lim = (⟨#[]⟩, p, 32) := by unfold textC; rw [if_pos ⟨h, h'⟩]
theorem textC_may {l : List Int} {p : Nat} {e lim : Int} (h : (bytesC l p e lim).2.2 = 0) (h' : mayL (bytesC l p e lim).1 = true) : textC l p e lim = (strOfNums (bytesC l p e lim).1, (bytesC l p e lim).2.1, 0) := by
  unfold textC; rw [if_neg (by rw [h']; simp), ← h]
theorem textC_bad {l : List Int} {p : Nat} {e lim : Int} (h : ¬ (bytesC l p e lim).2.2 = 0) : textC l p e lim = (strOfNums (bytesC l p e lim).1, (bytesC l p e lim).2.1, (bytesC l p e lim).2.2) := by
  unfold textC; rw [if_neg (by simp [h])]
/-- a text answered; the cursor c behind -/
def RetText (c : Nat) (l : List Int) (w : World) (s : ByteArray) (p : Nat) (e : Int) (r : Ending) (w' : World) : Prop := r = .returned (.string s) ∧ Cur w' c l p e ∧ OldBut c w w'
theorem RetText.mk {c : Nat} {l : List Int} {w w' : World} {n n' : ByteArray} {p p' : Nat} {e e' : Int} (hn : n = n') (hp : p = p') (he : e = e') (hc : Cur w' c l p e) (ho : OldBut c w w') : RetText c l w n' p' e' (.returned (.string n)) w' := by
  subst hn hp he; exact ⟨rfl, hc, ho⟩
set_option maxHeartbeats 800000 in
theorem Text_any (w0 : World) (hT : Tabs w0) (ho0 : Old w0 w) (hcw : w0.heap.size ≤ c) (h : Cur w c l p e) (hb : Byt l) (hz : l.length ≤ 140737488355328) (lim : Int) (hl0 : -9223372036854775808 ≤ lim) (hl1 : lim ≤ 9223372036854775807) :
    Calls Tryd.prog 34 #[.pointer (some ⟨c, 0, none⟩), .int .i64 lim] w (RetText c l w (textC l p e lim).1 (textC l p e lim).2.1 (textC l p e lim).2.2) := by
  have Ca := Lib.hid (At_any h)
  have Cb := Lib.hid (Bytes_any h hb hz lim hl0 hl1)
  have hp := h.le
  by_cases he : (bytesC l p e lim).2.2 = 0
  · by_cases hm : mayL (bytesC l p e lim).1 = true
    · have Hu := Lib.hid (textC_may he hm)
      rw [he] at Cb
      have Hm := Lib.hid hm
      generalize (bytesC l p e lim).1 = L at *
      generalize (bytesC l p e lim).2.1 = p' at *
      clear h he hm
      go_enter Tryd.func34, Tryd.ntmps34
      go_wp2_with (first
        | (go_at_call 16; refine Ca.out.mono ?_; rintro r w1 ⟨rfl, rfl⟩)
        | (go_at_call 33; refine Cb.out.mono ?_; rintro r w1 ⟨v, rfl, hv, hc, ho⟩; have kc := convert_bytes hv.nums 22 5 Tryd.underlying22 Tryd.underlying5 9 Tryd.underlying9 (Old.refl w1))
        | (go_at_call 40; refine (fine_any hc).mono ?_; rintro r w2 ⟨rfl, rfl⟩)
        | (go_at_call 19; refine (May_any _ w1 (hT.old (ho.base ho0 hcw))).mono ?_; rw [show (plainAt (strOfNums L).data.toList 0).2 = true from Hm.out]; rintro r w3 ⟨rfl, ho3⟩))
      go_ret
      exact RetText.mk (by rw [Hu.out]) (by rw [Hu.out]) (by rw [Hu.out]) (hc.old ho3) (ho.old ho3)
    · have hm := Bool.eq_false_iff.2 hm
      have Hu := Lib.hid (textC_no he hm)
      rw [he] at Cb
      have Hm := Lib.hid hm
      generalize (bytesC l p e lim).1 = L at *
      generalize (bytesC l p e lim).2.1 = p' at *
      clear h he hm
      go_enter Tryd.func34, Tryd.ntmps34
      go_wp2_with (first
        | (go_at_call 16; refine Ca.out.mono ?_; rintro r w1 ⟨rfl, rfl⟩)
        | (go_at_call 33; refine Cb.out.mono ?_; rintro r w1 ⟨v, rfl, hv, hc, ho⟩; have kc := convert_bytes hv.nums 22 5 Tryd.underlying22 Tryd.underlying5 9 Tryd.underlying9 (Old.refl w1))
        | (go_at_call 40; refine (fine_any hc).mono ?_; rintro r w2 ⟨rfl, rfl⟩)
        | (go_at_call 19; refine (May_any _ w1 (hT.old (ho.base ho0 hcw))).mono ?_; rw [show (plainAt (strOfNums L).data.toList 0).2 = false from Hm.out]; rintro r w3 ⟨rfl, ho3⟩)
        | (go_at_call 47; refine (back_any (hc.old ho3) p hp 32).mono ?_; rintro r w4 ⟨rfl, hc4, ho4⟩))
      go_ret
      rw [failE_zero] at hc4
      exact RetText.mk (by rw [Hu.out]) (by rw [Hu.out]) (by rw [Hu.out]) hc4 ((ho.old ho3).trans ho4)
  · have Hu := Lib.hid (textC_bad he)
    have hb1 : ((bytesC l p e lim).2.2 == 0) = false := by rw [beq_eq_false_iff_ne]; exact he
    generalize (bytesC l p e lim).1 = L at *
    generalize (bytesC l p e lim).2.1 = p' at *
    generalize (bytesC l p e lim).2.2 = e' at *
    clear h he
    go_enter Tryd.func34, Tryd.ntmps34
    go_wp2_with (first
      | (go_at_call 16; refine Ca.out.mono ?_; rintro r w1 ⟨rfl, rfl⟩)
      | (go_at_call 33; refine Cb.out.mono ?_; rintro r w1 ⟨v, rfl, hv, hc, ho⟩; have kc := convert_bytes hv.nums 22 5 Tryd.underlying22 Tryd.underlying5 9 Tryd.underlying9 (Old.refl w1))
      | (go_at_call 40; refine (fine_any hc).mono ?_; rintro r w2 ⟨rfl, rfl⟩))
    go_ret
    exact RetText.mk (by rw [Hu.out]) (by rw [Hu.out]) (by rw [Hu.out]) hc ho
theorem bytesC_len {l : List Int} {p : Nat} {e lim : Int} : (bytesC l p e lim).1.length ≤ l.length := by
  unfold bytesC
  split
  · split
    · simp
    · split
      · simp
      · simp [cutL]; omega
  · simp
theorem str_size (L : List Int) : (strOfNums L).size = L.length := by
  rw [← str_len, ← ByteArray.toList_eq, str_toList, List.length_map]
set_option maxHeartbeats 800000 in
theorem RText_any (h : Cur w c l p e) (hb : Byt l) (hz : l.length * 32 ≤ 140737488355328) (lim : Int) (hl0 : -9223372036854775808 ≤ lim) (hl1 : lim ≤ 9223372036854775807) :
    Calls Tryd.prog 55 #[.pointer (some ⟨c, 0, none⟩), .int .i64 lim] w (RetText c l w (textC l p e lim).1 (textC l p e lim).2.1 (textC l p e lim).2.2) := by
  have h1a := later h.at1
  have Cb := Lib.hid (RBytes_any h hb (by omega) lim hl0 hl1)
  have hp := h.le
  have hlen := bytesC_len (l := l) (p := p) (e := e) (lim := lim)
  by_cases he : (bytesC l p e lim).2.2 = 0
  · by_cases hm : mayL (bytesC l p e lim).1 = true
    · have Hu := Lib.hid (textC_may he hm)
      rw [he] at Cb
      have Hm := Lib.hid hm
      generalize (bytesC l p e lim).1 = L at *
      generalize (bytesC l p e lim).2.1 = p' at *
      clear h he hm
      have Cm := Lib.hid (fun W => RMay_any (strOfNums L) W (by rw [str_size]; omega))
      go_enter Tryd.func55, Tryd.ntmps55
      go_wp2_with (first
        | (go_at_call 54; refine Cb.out.mono ?_; rintro r w1 ⟨v, rfl, hv, hc, ho⟩; have kc := convert_bytes hv.nums 22 5 Tryd.underlying22 Tryd.underlying5 9 Tryd.underlying9 (Old.refl w1); have hc2 := hc.er2; have Hcc := Lib.hid hc; clear hc)
        | (go_at_call 20; refine (Cm.out w1).mono ?_; rw [show (plainAt (strOfNums L).data.toList 0).2 = true from Hm.out]; rintro r w3 ⟨rfl, ho3⟩))
      go_ret
      exact RetText.mk (by rw [Hu.out]) (by rw [Hu.out]) (by rw [Hu.out]) (Hcc.out.old ho3) (ho.old ho3)
    · have hm := Bool.eq_false_iff.2 hm
      have Hu := Lib.hid (textC_no he hm)
      rw [he] at Cb
      have Hm := Lib.hid hm
      generalize (bytesC l p e lim).1 = L at *
      generalize (bytesC l p e lim).2.1 = p' at *
      clear h he hm
      have Cm := Lib.hid (fun W => RMay_any (strOfNums L) W (by rw [str_size]; omega))
      go_enter Tryd.func55, Tryd.ntmps55
      go_wp2_with (first
        | (go_at_call 54; refine Cb.out.mono ?_; rintro r w1 ⟨v, rfl, hv, hc, ho⟩; have kc := convert_bytes hv.nums 22 5 Tryd.underlying22 Tryd.underlying5 9 Tryd.underlying9 (Old.refl w1); have hc2 := hc.er2; have Hcc := Lib.hid hc; clear hc)
        | (go_at_call 20; refine (Cm.out w1).mono ?_; rw [show (plainAt (strOfNums L).data.toList 0).2 = false from Hm.out]; rintro r w3 ⟨rfl, ho3⟩; have hc1 := (Hcc.out.old ho3).at1; have hf1 := (Hcc.out.old ho3).fz 1; have Hcd := Lib.hid ((Hcc.out.old ho3).setAt hp))
        | (go_at_call 56; refine (Stop_any Hcd.out).mono ?_; rintro r w4 ⟨rfl, hc4, ho4⟩))
      go_ret
      rw [failE_zero] at hc4
      exact RetText.mk (by rw [Hu.out]) (by rw [Hu.out]) (by rw [Hu.out]) hc4 (((ho.old ho3).setCell 1 _).trans ho4)
  · have Hu := Lib.hid (textC_bad he)
    have hb1 : ((bytesC l p e lim).2.2 == 0) = false := by rw [beq_eq_false_iff_ne]; exact he
    generalize (bytesC l p e lim).1 = L at *
    generalize (bytesC l p e lim).2.1 = p' at *
    generalize (bytesC l p e lim).2.2 = e' at *
    clear h he
    go_enter Tryd.func55, Tryd.ntmps55
    go_wp2_with (go_at_call 54; refine Cb.out.mono ?_; rintro r w1 ⟨v, rfl, hv, hc, ho⟩; have kc := convert_bytes hv.nums 22 5 Tryd.underlying22 Tryd.underlying5 9 Tryd.underlying9 (Old.refl w1); have hc2 := hc.er2; have Hcc := Lib.hid hc; clear hc)
    go_ret
    exact RetText.mk (by rw [Hu.out]) (by rw [Hu.out]) (by rw [Hu.out]) Hcc.out ho
end Go.Proofs.YtaclkoipobgmkaaDoor
