/-
  LINK, C: in new memory; whether a list has a number; pairs.
-/
import Derived.Test.YtkaoipegbjmlnaaDoorZLinkA
import Derived.Test.YtkaoipegbjmlnaaDoorZOwn
namespace Go.Proofs.YtkaoipegbjmlnaaDoor
open Go.RowKit
attribute [local go_sem] Old.refl Old.alloc Old.drew Old.setCell OldW.old

theorem infoRf : (Tryd.prog.info? 43).map (fun i => (i.zero, i.size, i.bytes)) = some (some (.agg #[.int .i64 0, .int .i64 0, .int .i64 0, .string ⟨#[]⟩, .int .i64 0, .int .i64 0]), 6, 56) := by kernel_rfl
theorem infoInt : (Tryd.prog.info? 3).map (fun i => (i.zero, i.size, i.bytes)) = some (some (.int .i64 0), 1, 8) := by kernel_rfl
/-- what a reference's cells say in every later world -/
theorem Recs.six {w : World} {b off i : Nat} {t : List Rfr} (ht : ∀ j u, (rfE.all t)[j]? = some u → ∀ W, Old w W → W.cell? ⟨b, off + j, none⟩ = some u) {x : Rfr} (hx : t[i]? = some x) :
    ∀ V, Old w V → V.cell? ⟨b, off + i * 6, none⟩ = some (.int .i64 x.f) ∧ V.cell? ⟨b, off + i * 6 + 1, none⟩ = some (.int .i64 x.t) ∧ V.cell? ⟨b, off + i * 6 + 2, none⟩ = some (.int .i64 x.n) ∧
      V.cell? ⟨b, off + i * 6 + 3, none⟩ = some (.string x.s) ∧ V.cell? ⟨b, off + i * 6 + 4, none⟩ = some (.int .i64 x.l) ∧ V.cell? ⟨b, off + i * 6 + 5, none⟩ = some (.int .i64 x.c) := fun V o => by
  have h0 := ht (i * 6 + 0) _ (Enc.all_at (c := rfE) (j := 0) hx rfl) V o
  have h1 := ht (i * 6 + 1) _ (Enc.all_at (c := rfE) (j := 1) hx rfl) V o
  have h2 := ht (i * 6 + 2) _ (Enc.all_at (c := rfE) (j := 2) hx rfl) V o
  have h3 := ht (i * 6 + 3) _ (Enc.all_at (c := rfE) (j := 3) hx rfl) V o
  have h4 := ht (i * 6 + 4) _ (Enc.all_at (c := rfE) (j := 4) hx rfl) V o
  have h5 := ht (i * 6 + 5) _ (Enc.all_at (c := rfE) (j := 5) hx rfl) V o
  rw [← Nat.add_assoc] at h1 h2 h3 h4 h5
  exact ⟨h0, h1, h2, h3, h4, h5⟩
end Go.Proofs.YtkaoipegbjmlnaaDoor
/-
  LINK, D: to whom a topic refers, who refers to it.
-/


namespace Go.Proofs.YtkaoipegbjmlnaaDoor
open Go.RowKit
attribute [local go_sem] Old.refl Old.alloc Old.drew Old.setCell OldW.old

/-- sorted and made one of each -/
def riseL (l : List Int) : List Int := Lib.compact (l.mergeSort fun x y => decide (x ≤ y))
/-- what 'rising' does to a row of the call's own -/
def Rises : Prop := ∀ (w0 w : World) (v : Value) (l : List Int), OwnI 3 w0 w v l → l.length ≤ 65536 →
  Calls Tryd.prog 28 #[v] w fun e w' => ∃ u, e = .returned u ∧ OwnI 3 w0 w' u (riseL l) ∧ u.ownBlock = v.ownBlock ∧ w.grownBy w' v.ownBlock
/-- a list in new memory, and an error's number -/
def RetL (w w' : World) (E : Int) (x : List Int) (e : Ending) : Prop := ∃ v, e = .returned (.tuple #[v, .int .i64 E]) ∧ OwnI 3 w w' v (if E = 0 then x else [])
theorem out_rise (l : List Rfr) (tp a : Int) : riseL (rawOut l tp a) = outOf l tp a := out_is l tp a
theorem into_rise (l : List Rfr) (tp a : Int) : riseL (rawInto l tp a) = intoOf l tp a := into_is l tp a
set_option maxRecDepth 100000 in
set_option maxHeartbeats 1600000 in
theorem Out_any (HR : Rises) (v : Value) (l : List Rfr) (tp t : Int) (w : World) (hl : Recs rfE w v l) :
    Calls Tryd.prog 18 #[v, .int .i64 tp, .int .i64 t] w fun e w' => RetL w w' (asksE l.length tp [t]) (outOf l tp t) e ∧ Old w w' := by
  obtain ⟨a, cap, b, off, rfl, hc1, hc2, ha, ht⟩ := hl
  have Ha := Lib.hid ha
  have Ht := Lib.hid ht
  have HC := Lib.hid (fun V (h : Ints V (.slice (some ⟨w.heap.size, 0, none⟩) 1 1) [t]) => check_any a l.length cap tp (.slice (some ⟨w.heap.size, 0, none⟩) 1 1) [t] V h)
  have HI := Lib.hid (Ints.one w 3 t)
  clear ha ht
  by_cases hE : asksE l.length tp [t] = 0
  · have hn : l.length ≤ 65536 := by
      unfold asksE at hE
      split at hE
      · cases hE
      · omega
    rw [hE] at HC ⊢
    have Hof := Lib.hid (out_rise l tp t)
    clear hE
    go_enter Tryd.func18, Tryd.ntmps18
    go_wp2_with fail
    refine (HC.out _ HI.out).mono ?_
    rintro e w1 ⟨rfl, rfl⟩
    have o1 : Old w (w.alloc (.cells #[.int .i64 t] 3)) := (Old.refl w).alloc _
    generalize w.alloc (.cells #[.int .i64 t] 3) = w1 at *
    go_wp2_with fail
    go_loopw [9, 22] (fun x j wr => ∃ k : Nat, j = .int .i64 k ∧ k ≤ l.length ∧ OwnI 3 w1 wr x (rawOut (l.take k) tp t) ∧ Old w1 wr) (fun _ j _ => l.length - (intOf j).toNat)
    case atStart => exact ⟨0, rfl, Nat.zero_le _, OwnI.nil _ _ _, Old.refl _⟩
    case round =>
      obtain ⟨k, rfl, hk, hown, ho⟩ := hrel
      have Hown := Lib.hid hown
      have hraw : (rawOut (l.take k) tp t).length ≤ k := by
        unfold rawOut
        rw [List.length_map]
        have h1 := List.length_filter_le (fun x => cntR x tp && x.f == t) (l.take k)
        rw [List.length_take] at h1; omega
      have o2 := o1.trans ho
      clear hown
      by_cases hlt : k < l.length
      · have hi : (k : Int) < l.length := by omega
        obtain rfl := Ha.out (by omega)
        obtain ⟨x, hx⟩ : ∃ x, l[k]? = some x := ⟨_, List.getElem?_eq_getElem hlt⟩
        have K := Recs.six Ht.out hx
        have k0 := (K wr o2).1
        have k1 := (K wr o2).2.1
        have k2 := (K wr o2).2.2.1
        have k3 := (K wr o2).2.2.2.1
        have k4 := (K wr o2).2.2.2.2.1
        have k5 := (K wr o2).2.2.2.2.2
        have Hsn := Lib.hid (show rawOut (l.take (k + 1)) tp t = rawOut (l.take k) tp t ++ if (cntR x tp && x.f == t) = true then [x.t] else [] from by
          rw [List.take_succ_eq_append_getElem hlt, (List.getElem?_eq_some_iff.1 hx).2, rawOut_snoc])
        have HCt := Lib.hid (fun V => counts_any x tp V)
        unfold rfV at HCt
        clear K hx
        generalize cntR x tp = c at *
        obtain ⟨xf, xt, xn, xs, xl, xc⟩ := x
        dsimp only at *
        generalize rawOut (l.take k) tp t = raw at *
        have hb0 : ∀ V, Old (wr.alloc (.cells #[.int .i64 xf, .int .i64 xt, .int .i64 xn, .string xs, .int .i64 xl, .int .i64 xc] 43)) V → V.cell? ⟨wr.heap.size, 0, none⟩ = some (.int .i64 xf) := fun V o => o.cell (by simp [go_sem])
        have hb1 : ∀ V, Old (wr.alloc (.cells #[.int .i64 xf, .int .i64 xt, .int .i64 xn, .string xs, .int .i64 xl, .int .i64 xc] 43)) V → V.cell? ⟨wr.heap.size, 1, none⟩ = some (.int .i64 xt) := fun V o => o.cell (by simp [go_sem])
        have oa : Old wr (wr.alloc (.cells #[.int .i64 xf, .int .i64 xt, .int .i64 xn, .string xs, .int .i64 xl, .int .i64 xc] 43)) := (Old.refl wr).alloc _
        go_wp2_with fail
        refine (HCt.out _).mono ?_
        rintro e w3 ⟨rfl, ho3⟩
        have c0 := hb0 w3 ho3
        have c1 := hb1 w3 ho3
        have o3 : Old w1 w3 := (ho.trans oa).trans ho3
        have Hown3 := Lib.hid (Hown.out.old (oa.trans ho3))
        clear hb0 hb1 oa
        cases c with
        | false =>
          have Hs : Hid (rawOut (l.take (k + 1)) tp t = raw) := by
            show _ = _
            rw [Hsn.out]; simp
          go_wp2_with fail
          go_roundw
          case rel => exact ⟨k + 1, by go_num, by omega, by rw [Hs.out]; exact Hown3.out, o3⟩
          case measure => simp [intOf]; omega
        | true =>
          by_cases hk2 : xf = t
          · have hbq : (xf == t) = true := by rw [beq_iff_eq]; exact hk2
            have Hs : Hid (rawOut (l.take (k + 1)) tp t = raw ++ [xt]) := by
              show _ = _
              rw [Hsn.out, hbq]; rfl
            clear hk2
            go_wp2_with (at_builtin; refine wpList_append_ints (w0 := w1) rfl _ _ 59 rfl 3 Tryd.underlying59 infoInt _ raw [xt] rfl (Hown3.out.alloc _) _ rfl (Ints.one _ _ xt) (by simp; omega) (o3.alloc _) ?_; intro v4 w4 hown4 ho4 _)
            go_roundw
            case rel => exact ⟨k + 1, by go_num, by omega, by rw [Hs.out]; exact hown4, ho4⟩
            case measure => simp [intOf]; omega
          · have hbq : (xf == t) = false := by rw [beq_eq_false_iff_ne]; exact hk2
            have Hs : Hid (rawOut (l.take (k + 1)) tp t = raw) := by
              show _ = _
              rw [Hsn.out, hbq]; simp
            clear hk2
            go_wp2_with fail
            go_roundw
            case rel => exact ⟨k + 1, by go_num, by omega, by rw [Hs.out]; exact Hown3.out, o3⟩
            case measure => simp [intOf]; omega
      · obtain rfl : k = l.length := by omega
        have Hfull : Hid (rawOut (l.take l.length) tp t = rawOut l tp t) := by
          show _ = _
          rw [List.take_length]
        have hi : ¬ (l.length : Int) < l.length := by omega
        have HRi := Lib.hid (HR w1 wr _ _ Hown.out (by omega))
        rw [Hfull.out, Hof.out] at HRi
        go_wp2_with fail
        refine HRi.out.mono ?_
        rintro e w5 ⟨u, rfl, hu, _, hg⟩
        have o5 : Old w1 w5 := ho.grown hg (fun b hb => (World.ownsRow.lt Hown.out b hb).1)
        go_wp2_with fail
        go_ret2
        exact ⟨⟨u, rfl, hu.lower o1.size⟩, o1.trans o5⟩
  · have hb : (asksE l.length tp [t] != 0) = true := by rw [bne_iff_ne]; exact hE
    have Hne := Lib.hid hE
    generalize asksE l.length tp [t] = E at *
    clear hE
    go_enter Tryd.func18, Tryd.ntmps18
    go_wp2_with fail
    refine (HC.out _ HI.out).mono ?_
    rintro e w1 ⟨rfl, rfl⟩
    go_wp2_with fail
    go_ret2
    exact ⟨⟨_, rfl, by rw [if_neg Hne.out]; exact OwnI.nil _ _ _⟩, (Old.refl w).alloc _⟩
end Go.Proofs.YtkaoipegbjmlnaaDoor
