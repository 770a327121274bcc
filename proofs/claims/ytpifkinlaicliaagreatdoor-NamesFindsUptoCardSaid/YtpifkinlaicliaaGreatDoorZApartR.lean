/-
  THE DOCUMENT's TABLE OF NAMES: Find, Prefix, Near over the row in order.
-/
import Derived.Test.YtpifkinlaicliaaGreatDoorZRTabS
import Derived.Test.YtpifkinlaicliaaGreatDoorZApart
namespace Go.Proofs.YtpifkinlaicliaaGreatDoor
open Go.RowKit
attribute [local go_sem] Old.refl Old.alloc Old.drew Old.setCell OldW.old

theorem findN_first {l : List ByteArray} {q : ByteArray} {k : Nat} (hk : k < l.length) (he : l.getD k noS = q) (hno : ∀ j, j < k → ¬ l.getD j noS = q) : findN l q = some k := by
  unfold findN
  rw [List.findIdx?_eq_some_iff_getElem]
  refine ⟨hk, by simpa [List.getD, hk] using he, fun j hj => ?_⟩
  have := hno j hj
  simpa [List.getD, show j < l.length from by omega] using this
theorem findN_no {l : List ByteArray} {q : ByteArray} (hno : ∀ j, j < l.length → ¬ l.getD j noS = q) : findN l q = none := by
  refine findN_none.2 fun h => ?_
  obtain ⟨j, hj, e⟩ := List.getElem_of_mem h
  exact hno j hj (by simpa [List.getD, hj] using e)
set_option maxRecDepth 100000 in
set_option maxHeartbeats 1600000 in
theorem RFind_any (v : Value) (l : List ByteArray) (s : ByteArray) (w : World) (hv : RTabV w v l) :
    Calls Tryz.prog 14 #[v, .string s] w fun e w' => e = .returned (.tuple #[.int .i64 (optN (findR l s)), .bool (findR l s).isSome]) ∧ Old w w' := by
  obtain ⟨u0, u1, rfl, h0, h1⟩ := hv
  have HN := Lib.hid (fun V => RNorm_any s V)
  obtain ⟨a0, cap0, rfl, _, _⟩ := h0.form
  obtain ⟨a1, cap1, rfl, hc1, hc2⟩ := h1.form
  rw [List.length_map] at hc1
  have H1 := Lib.hid h1
  have hlm : (l.map nrm).length = l.length := List.length_map ..
  have ob : Old w (w.alloc (.cells #[.slice a0 l.length cap0, .slice a1 (l.map nrm).length cap1] 29)) := (Old.refl w).alloc _
  have k1 := later (show (w.alloc (.cells #[.slice a0 l.length cap0, .slice a1 (l.map nrm).length cap1] 29)).cell? ⟨w.heap.size, 1, none⟩ = some (.slice a1 (l.map nrm).length cap1) by simp [go_sem])
  clear h0 h1
  rw [hlm] at k1 ob
  go_enter Tryz.func14, Tryz.ntmps14
  rw [hlm]
  by_cases he : (normR s).2 = 0
  · have Hr : Hid (findR l s = findN (l.map nrm) (nrm s)) := Lib.hid (if_pos he)
    rw [he, show (normR s).1 = nrm s from rfl] at HN
    clear he
    generalize nrm s = q at *
    go_wp2_with (go_at_call 21; refine (HN.out _).mono ?_; rintro e w1 ⟨rfl, o1⟩; have k1' := fun V (o : Old w1 V) => k1 V (o1.trans o))
    have ow1 : Old w w1 := ob.trans o1
    clear k1 ob o1
    go_loopw [17] (fun kv wr => ∃ i : Nat, kv = .int .i64 i ∧ i ≤ l.length ∧ Hid (∀ j, j < i → ¬ (l.map nrm).getD j noS = q) ∧ w1 = wr) (fun kv _ => l.length - (intOf kv).toNat)
    case atStart => exact ⟨0, rfl, Nat.zero_le _, Lib.hid (fun j hj => absurd hj (Nat.not_lt_zero j)), rfl⟩
    case round =>
      obtain ⟨i, rfl, hi, hno, rfl⟩ := hrel
      by_cases hlt : i < l.length
      · have hi1 : (i : Int) < l.length := by omega
        obtain ⟨b, off, cap', e, _, _, hN⟩ := H1.out.at' (i := i) (by omega)
        obtain ⟨rfl, _, rfl⟩ := Value.slice.inj e
        have kN := hN w1 ow1
        have hbe := str_beqE (nmAt (l.map nrm) i) q
        have hDef : (l.map nrm).getD i noS = nmAt (l.map nrm) i := rfl
        clear e hN
        by_cases hx : nmAt (l.map nrm) i = q
        · have Hf : Hid (findN (l.map nrm) q = some i) := Lib.hid (findN_first (by omega) (hDef.trans hx) hno.out)
          rw [decide_eq_true hx] at hbe
          clear hDef hx hno
          generalize nmAt (l.map nrm) i = x at *
          go_wp2_with fail
          go_ret2
          exact ⟨ret_two (by rw [Hr.out, Hf.out]; rfl) (by rw [Hr.out, Hf.out]; rfl), ow1⟩
        · have Hno : Hid (∀ j, j < i + 1 → ¬ (l.map nrm).getD j noS = q) := Lib.hid (all_succ hno.out (by rw [hDef]; exact hx))
          rw [decide_eq_false hx] at hbe
          clear hDef hx hno
          generalize nmAt (l.map nrm) i = x at *
          go_wp2_with fail
          go_roundw
          case rel => exact ⟨i + 1, by go_num, by omega, Hno, by trivial⟩
          case measure => simp [intOf]; omega
      · obtain rfl : i = l.length := by omega
        have hi1 : ¬ (l.length : Int) < l.length := by omega
        have Hf : Hid (findN (l.map nrm) q = none) := Lib.hid (findN_no (by rw [hlm]; exact hno.out))
        clear hno
        go_wp2_with fail
        go_ret2
        exact ⟨ret_two (by rw [Hr.out, Hf.out]; rfl) (by rw [Hr.out, Hf.out]; rfl), ow1⟩
  · have Hr : Hid (findR l s = none) := Lib.hid (if_neg he)
    have hne : ((normR s).2 == 0) = false := by simpa using he
    clear he
    generalize (normR s).1 = q at *
    generalize (normR s).2 = e0 at *
    go_wp2_with (go_at_call 21; refine (HN.out _).mono ?_; rintro e w1 ⟨rfl, o1⟩; have k1' := fun V (o : Old w1 V) => k1 V (o1.trans o))
    have ow1 : Old w w1 := ob.trans o1
    clear k1 ob o1
    go_loopw [17] (fun kv wr => ∃ i : Nat, kv = .int .i64 i ∧ i ≤ l.length ∧ w1 = wr) (fun kv _ => l.length - (intOf kv).toNat)
    case atStart => exact ⟨0, rfl, Nat.zero_le _, rfl⟩
    case round =>
      obtain ⟨i, rfl, hi, rfl⟩ := hrel
      by_cases hlt : i < l.length
      · have hi1 : (i : Int) < l.length := by omega
        go_wp2_with fail
        go_roundw
        case rel => exact ⟨i + 1, by go_num, by omega, by trivial⟩
        case measure => simp [intOf]; omega
      · obtain rfl : i = l.length := by omega
        have hi1 : ¬ (l.length : Int) < l.length := by omega
        go_wp2_with fail
        go_ret2
        exact ⟨ret_two (by rw [Hr.out]; rfl) (by rw [Hr.out]; rfl), ow1⟩
end Go.Proofs.YtpifkinlaicliaaGreatDoor
/-
  HOW FAR TWO TEXTS ARE APART: the document's.
-/

namespace Go.Proofs.YtpifkinlaicliaaGreatDoor
open Go.RowKit
attribute [local go_sem] Old.refl Old.alloc Old.drew Old.setCell OldW.old
attribute [local go_sem high] run_min3
/-- two rows of the table -/
structure ApT (E : TypeId) (w w2 : World) (m p q : Nat) (W : World) (Lp Lq : List Int) : Prop where
  old : Old w2 W
  p : OwnI E w W (.slice (some ⟨p, 0, none⟩) m m) Lp
  q : OwnI E w W (.slice (some ⟨q, 0, none⟩) m m) Lq
theorem ApT.later {E : TypeId} {w w2 : World} {m p q : Nat} {W V : World} {Lp Lq : List Int} (h : ApT E w w2 m p q W Lp Lq) (o : Old W V) : ApT E w w2 m p q V Lp Lq := ⟨h.old.trans o, h.p.old o, h.q.old o⟩
theorem ApT.drew {E : TypeId} {w w2 : World} {m p q : Nat} {W : World} {Lp Lq : List Int} (h : ApT E w w2 m p q W Lp Lq) : ApT E w w2 m p q W.drew Lp Lq := ⟨h.old.drew, h.p.drew, h.q.drew⟩
theorem ApT.put {E : TypeId} {w w2 : World} {m p q : Nat} {W : World} {Lp Lq : List Int} (h : ApT E w w2 m p q W Lp Lq) (h2 : w2.heap.size ≤ q) (hq : p ≠ q) (k : Nat) (v : Int) :
    ApT E w w2 m p q (W.setCell ⟨q, k, none⟩ (.int .i64 v)) Lp (Lq.set k v) :=
  ⟨h.old.setCell (p := ⟨q, k, none⟩) h2 _, h.p.setCell_other (g := q) (o := k) _ (by intro z e; cases e; simpa using hq), h.q.stored k v⟩
set_option maxRecDepth 100000 in
set_option maxHeartbeats 3200000 in
theorem RApart_any (a b : ByteArray) (w : World) (ha : a.size ≤ 4194304) (hb : b.size ≤ 4194304) :
    Calls Tryz.prog 39 #[.string a, .string b] w fun e w' => e = .returned (.int .i64 (levL (runesI a) (runesI b))) ∧ Old w w' := by
  have hla := runesI_len a
  have hlb := runesI_len b
  have CA := Lib.hid (conv_runes a ha)
  have CB := Lib.hid (conv_runes b hb)
  generalize runesI a = x at *
  generalize runesI b = y at *
  obtain ⟨m, hm⟩ : ∃ m, y.length + 1 = m := ⟨_, rfl⟩
  have hmi : (y.length : Int) + 1 = (m : Int) := by omega
  go_enter Tryz.func39, Tryz.ntmps39
  obtain ⟨cap1, w1, r1, hv1, ho1⟩ := CA.out w
  obtain ⟨cap2, w2, r2, hv2, ho2⟩ := CB.out w1
  generalize w.heap.size = g1 at *
  generalize w1.heap.size = g2 at *
  have Hv1 := Lib.hid (hv1.old ho2)
  have Hv2 := Lib.hid hv2
  have o2 : Old w w2 := ho1.trans ho2
  clear hv1 hv2 CA CB
  go_wp2_with (at_make; refine wpList_make_ints (w0 := w) rfl _ _ 36 rfl 3 Tryz.underlying36 infoInt m rfl rfl (by omega) o2 ?_; intro w3 hP o23 s3)
  generalize hP0 : w2.heap.size = P at *
  have h2P : w2.heap.size ≤ P := by omega
  clear hP0
  have HP := Lib.hid hP
  clear hP
  go_loopw [23] (fun jv wr => ∃ (k : Nat) (L : List Int), k ≤ m ∧ jv = .int .i64 k ∧ L.length = m ∧ (∀ t, t < k → ix L t = t) ∧ OwnI 3 w wr (.slice (some ⟨P, 0, none⟩) m m) L ∧ Old w2 wr) (fun jv _ => m - (intOf jv).toNat)
  case atStart => exact ⟨0, _, Nat.zero_le _, rfl, by simp, fun t ht => absurd ht (Nat.not_lt_zero t), HP.out, o23⟩
  case round =>
    clear HP o23 s3
    obtain ⟨k, L, hk, rfl, hL, hix, hS, ho⟩ := hrel
    have HS := Lib.hid hS
    have Hix := Lib.hid hix
    clear hS hix
    by_cases hlt : k < m
    · have hk1 : (k : Int) < m := by omega
      have cp := HS.out.cell (k := k) (by omega)
      have fp := HS.out.frozen k
      have HS1 := Lib.hid (HS.out.stored k k)
      have ho1 : Old w2 (wr.setCell ⟨P, k, none⟩ (.int .i64 (k : Int))) := ho.setCell (p := ⟨P, k, none⟩) h2P _
      go_wp2_with fail
      go_roundw
      case rel =>
        refine ⟨k + 1, _, by omega, by go_num, by rw [List.length_set]; exact hL, fun t ht => ?_, HS1.out, ho1⟩
        rw [ix_setL (by omega)]
        by_cases e : t = k
        · rw [if_pos e, e]
        · rw [if_neg e]; exact Hix.out t (by omega)
      case measure => simp [intOf]; omega
    · obtain rfl : k = m := by omega
      have hk1 : ¬ (k : Int) < k := by omega
      have hLev : LevUp x y 0 y.length L := ⟨by omega, fun t ht => by rw [Hix.out t (by omega), lev_0l]⟩
      have HL := Lib.hid hLev
      clear hLev Hix
      go_wp2_with fail
      go_loopw [7, 33] (fun lv iv wr => ∃ (i p : Nat) (Lp : List Int), i ≤ x.length ∧ iv = .int .i64 i ∧ lv = .slice (some ⟨p, 0, none⟩) k k ∧ LevUp x y i y.length Lp ∧ OwnI 3 w wr (.slice (some ⟨p, 0, none⟩) k k) Lp ∧ Old w2 wr ∧ p < wr.heap.size) (fun _ iv _ => x.length - (intOf iv).toNat)
      case atStart => exact ⟨0, P, L, Nat.zero_le _, rfl, rfl, HL.out, HS.out, ho, by
        obtain ⟨g, e, _, h⟩ := HS.out.block (by omega)
        cases e; exact h⟩
      case round =>
        clear HS HL ho hL hk1 hlt hk h2P L
        obtain ⟨i, p, Lp, hi, rfl, rfl, hLp, hS, ho, hpl⟩ := hrel
        have HS := Lib.hid hS
        have HL := Lib.hid hLp
        clear hS hLp
        have hi2 : IntKind.i64.wrap ((i : Int) + 1) = (i : Int) + 1 := IntWalk.i64_in _ (by omega)
        have lp := HL.out.1
        by_cases hlt : i < x.length
        · have hi1 : (i : Int) < x.length := by omega
          have h2r := ho.size
          have owr : Old w wr := o2.trans ho
          go_wp2_with (at_make; refine wpList_make_ints (w0 := w) rfl _ _ 36 rfl 3 Tryz.underlying36 infoInt k rfl rfl (by omega) owr ?_; intro w4 hQ o34 s4; have cq0 := hQ.cell (k := 0) (by simp; omega); have fq0 := hQ.frozen 0)
          generalize hq0 : wr.heap.size = q at *
          have HS2 : Hid (ApT 3 w w2 k p q (w4.setCell ⟨q, 0, none⟩ (.int .i64 ((i : Int) + 1))) Lp ((List.replicate k 0).set 0 ((i : Int) + 1))) := Lib.hid (ApT.put ⟨ho.trans o34, HS.out.old o34, hQ⟩ h2r (by omega) 0 _)
          have HQ := Lib.hid (LevUp.first (x := x) (y := y) (i := i + 1) (L := List.replicate k 0) (v := (i : Int) + 1) (by simp; omega) (by rw [lev_0r]; rfl))
          have hqp : p ≠ q := by omega
          clear HS hQ o34 s4 ho owr hpl
          go_loopw [46] (fun jv wr => ∃ (j : Nat) (Lq : List Int), j ≤ y.length ∧ jv = .int .i64 j ∧ LevUp x y (i + 1) j Lq ∧ ApT 3 w w2 k p q wr Lp Lq) (fun jv _ => y.length - (intOf jv).toNat)
          case atStart => exact ⟨0, _, Nat.zero_le _, rfl, HQ.out, HS2.out⟩
          case round =>
            clear HS2 HQ cq0 fq0 w4 hq0
            obtain ⟨j, Lq, hj, rfl, hLq, hS⟩ := hrel
            have HS := Lib.hid hS
            have HQ := Lib.hid hLq
            clear hS hLq
            have lq := HQ.out.1
            by_cases hlt2 : j < y.length
            · have hj1 : (j : Int) < y.length := by omega
              have hj2 : IntKind.i64.wrap ((j : Int) + 1) = (j : Int) + 1 := IntWalk.i64_in _ (by omega)
              have hj3 : (j : Int) + 1 < k := by omega
              have hj4 : (0 : Int) ≤ (j : Int) + 1 := by omega
              have hj5 : (j : Int) < k := by omega
              obtain ⟨_, _, b1, o1', e1, _, _, ha1, ht1⟩ := Hv1.out
              obtain ⟨rfl, _, rfl⟩ := Value.slice.inj e1
              obtain ⟨rfl, rfl⟩ : g1 = b1 ∧ 0 = o1' := by simpa using ha1 (by omega)
              obtain ⟨_, _, b2, o2', e2, _, _, ha2, ht2⟩ := Hv2.out
              obtain ⟨rfl, _, rfl⟩ := Value.slice.inj e2
              obtain ⟨rfl, rfl⟩ : g2 = b2 ∧ 0 = o2' := by simpa using ha2 (by omega)
              have k1 := fun V (o : Old wr V) => ht1 i hlt V (HS.out.old.trans o)
              have k2 := fun V (o : Old wr V) => ht2 j hlt2 V (HS.out.old.trans o)
              rw [Nat.zero_add] at k1 k2
              clear ht1 ha1 e1 ht2 ha2 e2
              have cA := later (HS.out.p.cell (k := j) (by omega))
              rw [HL.out.2 j (by omega)] at cA
              have hss : lev x y (i + 1) (j + 1) = min (lev x y i j + if ix x i = ix y j then 0 else 1) (min (lev x y i (j + 1) + 1) (lev x y (i + 1) j + 1)) := lev_ss x y i j
              have l1 := (lev_le x y i j).1
              have l2 := (lev_le x y i (j + 1)).1
              have l3 := (lev_le x y (i + 1) j).1
              have HB := Lib.hid (HL.out.2 (j + 1) (by omega))
              have HC := Lib.hid (HQ.out.2 j (Nat.le_refl _))
              have HQ1 := Lib.hid (fun v h => HQ.out.put (v := v) hlt2 h)
              clear HQ
              generalize lev x y i j = A at *
              generalize lev x y i (j + 1) = B at *
              generalize lev x y (i + 1) j = C at *
              generalize lev x y (i + 1) (j + 1) = D at *
              generalize ix x i = X at *
              generalize ix y j = Y at *
              have hA : A ≤ 8388610 := by omega
              have hB : B ≤ 8388610 := by omega
              have hC : C ≤ 8388610 := by omega
              clear l1 l2 l3
              go_upto_region 17 with fail
              refine wp_region_old (Old.refl wr) (by kernel_rfl) (by kernel_rfl) ?_
              repeat (go_big_quiet_step (fail))
              refine wpQuiet_nil ?_
              rintro ⟨wq, hq⟩
              dsimp only
              have HS1 := Lib.hid (HS.out.later hq)
              clear HS k1 k2 cA
              have cB := HS1.out.p.cell (k := j + 1) (by omega)
              have cC := HS1.out.q.cell (k := j) (by omega)
              have cD := HS1.out.q.cell (k := j + 1) (by omega)
              have fD := HS1.out.q.frozen (j + 1)
              rw [HB.out] at cB
              rw [HC.out] at cC
              have HS2 := Lib.hid (fun v => HS1.out.drew.put h2r hqp (j + 1) v)
              clear HS1 HB HC
              by_cases hxy : X = Y
              · rw [if_pos hxy] at hss
                subst hxy
                have hv : min (min (A : Int) ((B : Int) + 1)) ((C : Int) + 1) = (D : Int) := by omega
                clear hss
                go_upto_region 19 with fail
                refine wp_region_still_tail 17 (by kernel_rfl) (by kernel_rfl) ?_
                simp only [List.take_succ_cons, List.take_zero, List.drop_succ_cons, List.drop_zero]
                repeat still_step
                refine wpStill_nil ?_
                go_wp2_with fail
                go_roundw
                case rel =>
                  refine ⟨j + 1, _, by omega, by go_num, ?_, HS2.out _⟩
                  exact HQ1.out _ (by rw [← hv]; omega)
                case measure => simp [intOf]; omega
              · rw [if_neg hxy] at hss
                have hv : min (min ((A : Int) + 1) ((B : Int) + 1)) ((C : Int) + 1) = (D : Int) := by omega
                clear hss
                go_upto_region 19 with fail
                refine wp_region_still_tail 17 (by kernel_rfl) (by kernel_rfl) ?_
                simp only [List.take_succ_cons, List.take_zero, List.drop_succ_cons, List.drop_zero]
                repeat still_step
                refine wpStill_nil ?_
                go_wp2_with fail
                go_roundw
                case rel =>
                  refine ⟨j + 1, _, by omega, by go_num, ?_, HS2.out _⟩
                  exact HQ1.out _ (by rw [← hv]; omega)
                case measure => simp [intOf]; omega
            · obtain rfl : j = y.length := by omega
              have hj1 : ¬ (y.length : Int) < y.length := by omega
              go_wp2_with fail
              go_roundw
              case rel => exact ⟨i + 1, q, Lq, by omega, by go_num, rfl, HQ.out, HS.out.q, HS.out.old, by
                obtain ⟨g, e, _, h⟩ := HS.out.q.block (by omega)
                cases e; exact h⟩
              case measure => simp [intOf]; omega
        · obtain rfl : i = x.length := by omega
          have hi1 : ¬ (x.length : Int) < x.length := by omega
          have cA := HS.out.cell (k := y.length) (by omega)
          rw [HL.out.2 y.length (Nat.le_refl _)] at cA
          have Ho := Lib.hid (o2.trans ho)
          have Hd := Lib.hid (show levL x y = lev x y x.length y.length from rfl)
          clear HL HS
          generalize lev x y x.length y.length = D at *
          go_wp2_with fail
          go_ret
          exact ⟨by rw [Hd.out]; rfl, Ho.out⟩
end Go.Proofs.YtpifkinlaicliaaGreatDoor
