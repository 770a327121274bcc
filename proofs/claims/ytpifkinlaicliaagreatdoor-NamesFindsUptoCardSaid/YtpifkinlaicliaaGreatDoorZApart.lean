/-
  HOW FAR TWO TEXTS ARE APART: the program's.
-/
import Derived.Test.YtpifkinlaicliaaGreatDoorZLev
import Derived.Test.YtpifkinlaicliaaGreatDoorZTextCompare3
import Derived.Test.YtpifkinlaicliaaGreatDoorZOwn
import Derived.StillTailTactics
namespace Go.Proofs.YtpifkinlaicliaaGreatDoor
open Go.RowKit
attribute [local go_sem] Old.refl Old.alloc Old.drew Old.setCell OldW.old

theorem infoInt : (Tryz.prog.info? 3).map (fun i => (i.zero, i.size, i.bytes)) = some (some (.int .i64 0), 1, 8) := by kernel_rfl
theorem run_min3 {P : Program} (w : World) (ts : Array TypeId) (t : TypeId) (k k' k'' : IntKind) (x y z : Int) :
    (Builtin.min_ ts t #[.int k x, .int k' y, .int k'' z]).run P w = .ok (.int k (min (min x y) z)) w := by
  have e : ∀ x y : Int, (if y < x then y else x) = min x y := fun x y => by
    rw [Int.min_def]
    split <;> split <;> omega
  simp [Builtin.min_, Builtin.min2, e]
/-- a row of the table, as far as place m -/
def LevUp (x y : List Int) (i m : Nat) (L : List Int) : Prop := L.length = y.length + 1 ∧ ∀ t, t ≤ m → ix L t = lev x y i t
theorem ix_setL {l : List Int} {i j : Nat} {v : Int} (hi : i < l.length) : ix (l.set i v) j = if j = i then v else ix l j := by
  unfold ix
  rw [List.getD_eq_getElem?_getD, List.getD_eq_getElem?_getD, List.getElem?_set]
  by_cases e : i = j
  · subst e; simp [hi]
  · rw [if_neg e, if_neg (fun h => e h.symm)]
theorem LevUp.put {x y : List Int} {i m : Nat} {L : List Int} {v : Int} (h : LevUp x y i m L) (hm : m < y.length) (hv : v = lev x y i (m + 1)) : LevUp x y i (m + 1) (L.set (m + 1) v) := by
  refine ⟨by rw [List.length_set]; exact h.1, fun t ht => ?_⟩
  rw [ix_setL (by rw [h.1]; omega)]
  by_cases e : t = m + 1
  · rw [if_pos e, e, hv]
  · rw [if_neg e]; exact h.2 t (by omega)
theorem LevUp.first {x y : List Int} {i : Nat} {L : List Int} {v : Int} (h : L.length = y.length + 1) (hv : v = lev x y i 0) : LevUp x y i 0 (L.set 0 v) := by
  refine ⟨by rw [List.length_set]; exact h, fun t ht => ?_⟩
  obtain rfl : t = 0 := by omega
  rw [ix_setL (by rw [h]; omega), if_pos rfl, hv]
theorem frozen_old' {w W : World} (h : Old w W) {p : Addr} (hb : p.block < w.heap.size) : W.frozen? p = w.frozen? p := by
  unfold World.frozen?
  rw [h.block _ hb]
/-- two rows of the table, and the array that holds them -/
structure ApS (E : TypeId) (w w2 : World) (R m p i q j : Nat) (W : World) (Lp Lq : List Int) : Prop where
  old : Old w2 W
  c0 : W.cell? ⟨R, i, none⟩ = some (.slice (some ⟨p, 0, none⟩) m m)
  c1 : W.cell? ⟨R, j, none⟩ = some (.slice (some ⟨q, 0, none⟩) m m)
  p : OwnI E w W (.slice (some ⟨p, 0, none⟩) m m) Lp
  q : OwnI E w W (.slice (some ⟨q, 0, none⟩) m m) Lq
theorem ApS.swap {E : TypeId} {w w2 : World} {R m p i q j : Nat} {W : World} {Lp Lq : List Int} (h : ApS E w w2 R m p i q j W Lp Lq) : ApS E w w2 R m q j p i W Lq Lp := ⟨h.old, h.c1, h.c0, h.q, h.p⟩
theorem ApS.later {E : TypeId} {w w2 : World} {R m p i q j : Nat} {W V : World} {Lp Lq : List Int} (h : ApS E w w2 R m p i q j W Lp Lq) (o : Old W V) : ApS E w w2 R m p i q j V Lp Lq := ⟨h.old.trans o, o.cell h.c0, o.cell h.c1, h.p.old o, h.q.old o⟩
theorem ApS.drew {E : TypeId} {w w2 : World} {R m p i q j : Nat} {W : World} {Lp Lq : List Int} (h : ApS E w w2 R m p i q j W Lp Lq) : ApS E w w2 R m p i q j W.drew Lp Lq := ⟨h.old.drew, h.c0, h.c1, h.p.drew, h.q.drew⟩
theorem ApS.put {E : TypeId} {w w2 : World} {R m p i q j : Nat} {W : World} {Lp Lq : List Int} (h : ApS E w w2 R m p i q j W Lp Lq) (h2 : w2.heap.size ≤ p) (hR : R ≠ p) (hq : q ≠ p) (k : Nat) (v : Int) :
    ApS E w w2 R m p i q j (W.setCell ⟨p, k, none⟩ (.int .i64 v)) (Lp.set k v) Lq :=
  ⟨h.old.setCell (p := ⟨p, k, none⟩) h2 _, (World.cell?_setCell_other _ _ _ _ (by intro e; have := congrArg Addr.block e; dsimp only at this; omega)).trans h.c0, (World.cell?_setCell_other _ _ _ _ (by intro e; have := congrArg Addr.block e; dsimp only at this; omega)).trans h.c1, h.p.stored k v,
    h.q.setCell_other (g := p) (o := k) _ (by intro z e; cases e; simpa using hq)⟩
attribute [local go_sem high] run_min3
set_option maxRecDepth 100000 in
set_option maxHeartbeats 3200000 in
theorem Apart_any (a b : ByteArray) (w : World) (ha : a.size ≤ 4194304) (hb : b.size ≤ 4194304) :
    Calls Tryz.prog 27 #[.string a, .string b] w fun e w' => e = .returned (.int .i64 (levL (runesI a) (runesI b))) ∧ Old w w' := by
  have hla := runesI_len a
  have hlb := runesI_len b
  have CA := Lib.hid (conv_runes a ha)
  have CB := Lib.hid (conv_runes b hb)
  generalize runesI a = x at *
  generalize runesI b = y at *
  obtain ⟨m, hm⟩ : ∃ m, y.length + 1 = m := ⟨_, rfl⟩
  have hmi : (y.length : Int) + 1 = (m : Int) := by omega
  go_enter Tryz.func27, Tryz.ntmps27
  obtain ⟨cap1, w1, r1, hv1, ho1⟩ := CA.out w
  obtain ⟨cap2, w2, r2, hv2, ho2⟩ := CB.out w1
  generalize w.heap.size = g1 at *
  generalize w1.heap.size = g2 at *
  have Hv1 := Lib.hid (hv1.old ho2)
  have Hv2 := Lib.hid hv2
  have o2 : Old w w2 := ho1.trans ho2
  clear hv1 hv2 CA CB
  go_upto_region 3 with fail
  have o3 : Old w (w2.alloc (.cells #[.slice none 0 0, .slice none 0 0] 92)) := o2.alloc _
  have cR0 : (w2.alloc (.cells #[.slice none 0 0, .slice none 0 0] 92)).cell? ⟨w2.heap.size, 0, none⟩ = some (.slice none 0 0) := by simp [go_sem]
  have cR1 : (w2.alloc (.cells #[.slice none 0 0, .slice none 0 0] 92)).cell? ⟨w2.heap.size, 1, none⟩ = some (.slice none 0 0) := by simp [go_sem]
  have fR0 : (w2.alloc (.cells #[.slice none 0 0, .slice none 0 0] 92)).frozen? ⟨w2.heap.size, 0, none⟩ = false := by simp [go_sem]
  have fR1 : (w2.alloc (.cells #[.slice none 0 0, .slice none 0 0] 92)).frozen? ⟨w2.heap.size, 1, none⟩ = false := by simp [go_sem]
  have sR : (w2.alloc (.cells #[.slice none 0 0, .slice none 0 0] 92)).heap.size = w2.heap.size + 1 := by simp
  have o23 : Old w2 (w2.alloc (.cells #[.slice none 0 0, .slice none 0 0] 92)) := (Old.refl w2).alloc _
  generalize (w2.alloc (.cells #[.slice none 0 0, .slice none 0 0] 92)) = w3 at *
  generalize hR : w2.heap.size = R at *
  have hwR : w.heap.size ≤ R := by rw [← hR]; exact o2.size
  go_wp2_with fail
  refine wp_loop_rounds 3 ?_
  rw [rounds_succ]
  go_wp2_with (at_make; refine wpList_make_ints (w0 := w) rfl _ _ 36 rfl 3 Tryz.underlying36 infoInt m rfl rfl (by omega) o3 ?_; intro w4 hP o34 s4; rw [sR] at hP s4; have cR0' := o34.cell cR0; have fR0' := (frozen_old' o34 (p := ⟨R, 0, none⟩) (by simp; omega)).trans fR0)
  have o24 : Old w2 (w4.setCell ⟨R, 0, none⟩ (.slice (some ⟨R + 1, 0, none⟩) m m)) := (o23.trans o34).setCell (p := ⟨R, 0, none⟩) (by rw [hR]; exact Nat.le_refl _) _
  have cR1' : (w4.setCell ⟨R, 0, none⟩ (.slice (some ⟨R + 1, 0, none⟩) m m)).cell? ⟨R, 1, none⟩ = some (.slice none 0 0) := (World.cell?_setCell_other _ _ _ _ (by simp)).trans (o34.cell cR1)
  have cR0'' : (w4.setCell ⟨R, 0, none⟩ (.slice (some ⟨R + 1, 0, none⟩) m m)).cell? ⟨R, 0, none⟩ = some (.slice (some ⟨R + 1, 0, none⟩) m m) := World.cell?_setCell_same _ _ _ cR0'
  have fR1' : (w4.setCell ⟨R, 0, none⟩ (.slice (some ⟨R + 1, 0, none⟩) m m)).frozen? ⟨R, 1, none⟩ = false := by rw [World.frozen?_setCell]; exact (frozen_old' o34 (p := ⟨R, 1, none⟩) (by simp; omega)).trans fR1
  have hP' := hP.setCell_other (g := R) (o := 0) (.slice (some ⟨R + 1, 0, none⟩) m m) (by intro z e; cases e; simp)
  have sW4 : (w4.setCell ⟨R, 0, none⟩ (.slice (some ⟨R + 1, 0, none⟩) m m)).heap.size > R + 1 := by simp; omega
  generalize (w4.setCell ⟨R, 0, none⟩ (.slice (some ⟨R + 1, 0, none⟩) m m)) = W4 at *
  have o04 : Old w W4 := o2.trans o24
  rw [rounds_succ]
  go_wp2_with (at_make; refine wpList_make_ints (w0 := w) rfl _ _ 36 rfl 3 Tryz.underlying36 infoInt m rfl rfl (by omega) o04 ?_; intro w5 hQ o45 s5; have cR1'' := o45.cell cR1'; have fR1'' := (frozen_old' o45 (p := ⟨R, 1, none⟩) (by simp; omega)).trans fR1')
  have o25 : Old w2 (w5.setCell ⟨R, 1, none⟩ (.slice (some ⟨W4.heap.size, 0, none⟩) m m)) := (o24.trans o45).setCell (p := ⟨R, 1, none⟩) (by rw [hR]; exact Nat.le_refl _) _
  have cR0 : (w5.setCell ⟨R, 1, none⟩ (.slice (some ⟨W4.heap.size, 0, none⟩) m m)).cell? ⟨R, 0, none⟩ = some (.slice (some ⟨R + 1, 0, none⟩) m m) := (World.cell?_setCell_other _ _ _ _ (by simp)).trans (o45.cell cR0'')
  have cR1 : (w5.setCell ⟨R, 1, none⟩ (.slice (some ⟨W4.heap.size, 0, none⟩) m m)).cell? ⟨R, 1, none⟩ = some (.slice (some ⟨W4.heap.size, 0, none⟩) m m) := World.cell?_setCell_same _ _ _ cR1''
  have hP'' := (hP'.old o45).setCell_other (g := R) (o := 1) (.slice (some ⟨W4.heap.size, 0, none⟩) m m) (by intro z e; cases e; simp)
  have hQ'' := hQ.setCell_other (g := R) (o := 1) (.slice (some ⟨W4.heap.size, 0, none⟩) m m) (by intro z e; cases e; simp; omega)
  have hRP : R < R + 1 := Nat.lt_succ_self R
  have hPQ : R + 1 < W4.heap.size := by omega
  generalize (w5.setCell ⟨R, 1, none⟩ (.slice (some ⟨W4.heap.size, 0, none⟩) m m)) = W5 at *
  generalize W4.heap.size = Q at *
  generalize R + 1 = P at *
  clear cR0' fR0' cR1' cR0'' fR1' hP' cR1'' fR1'' o45 s5 hQ o04 o24 hP o34 s4 o3 o23 sR fR0 fR1 sW4
  have hS : ApS 3 w w2 R m P 0 Q 1 W5 (List.replicate m 0) (List.replicate m 0) := ⟨o25, cR0, cR1, hP'', hQ''⟩
  have h2P : w2.heap.size ≤ P := by omega
  have h2Q : w2.heap.size ≤ Q := by omega
  have hRP' : R ≠ P := by omega
  have hRQ' : R ≠ Q := by omega
  have hPQ' : P ≠ Q := by omega
  have HS := Lib.hid hS
  clear hS
  rw [rounds_succ]
  go_wp2_with fail
  go_loopw [34] (fun jv wr => ∃ (k : Nat) (L : List Int), k ≤ m ∧ jv = .int .i64 k ∧ L.length = m ∧ (∀ t, t < k → ix L t = t) ∧ ApS 3 w w2 R m P 0 Q 1 wr L (List.replicate m 0)) (fun jv _ => m - (intOf jv).toNat)
  case atStart => exact ⟨0, _, Nat.zero_le _, rfl, by simp, fun t ht => absurd ht (Nat.not_lt_zero t), HS.out⟩
  case round =>
    clear HS cR0 cR1 hP'' hQ'' o25
    obtain ⟨k, L, hk, rfl, hL, hix, hS⟩ := hrel
    have HS := Lib.hid hS
    have Hix := Lib.hid hix
    clear hS hix
    have c0 := HS.out.c0
    by_cases hlt : k < m
    · have hk1 : (k : Int) < m := by omega
      have cp := HS.out.p.cell (k := k) (by omega)
      have fp := HS.out.p.frozen k
      have HS1 := Lib.hid (HS.out.put h2P hRP' (Ne.symm hPQ') k k)
      go_wp2_with fail
      go_roundw
      case rel =>
        refine ⟨k + 1, _, by omega, by go_num, by rw [List.length_set]; exact hL, fun t ht => ?_, HS1.out⟩
        rw [ix_setL (by omega)]
        by_cases e : t = k
        · rw [if_pos e, e]
        · rw [if_neg e]; exact Hix.out t (by omega)
      case measure => simp [intOf]; omega
    · obtain rfl : k = m := by omega
      have hk1 : ¬ (k : Int) < k := by omega
      have hLev : LevUp x y 0 y.length L := ⟨by omega, fun t ht => by rw [Hix.out t (by omega), lev_0l]⟩
      have HL := Lib.hid hLev
      clear hLev Hix
      go_wp2_with fail
      go_loopw [45] (fun iv wr => ∃ (i p q : Nat) (Lp Lq : List Int), i ≤ x.length ∧ iv = .int .i64 i ∧ w2.heap.size ≤ p ∧ R ≠ p ∧ w2.heap.size ≤ q ∧ R ≠ q ∧ q ≠ p ∧ LevUp x y i y.length Lp ∧ Lq.length = k ∧ ApS 3 w w2 R k p (i % 2) q ((i + 1) % 2) wr Lp Lq) (fun iv _ => x.length - (intOf iv).toNat)
      case atStart => exact ⟨0, P, Q, _, _, Nat.zero_le _, rfl, h2P, hRP', h2Q, hRQ', Ne.symm hPQ', HL.out, by simp, HS.out⟩
      case round =>
        clear HS HL c0 hL hk1 hlt hk hwR hRP hPQ h2P h2Q hRP' hRQ' hPQ' L
        obtain ⟨i, p, q, Lp, Lq, hi, rfl, h2p, hRp, h2q, hRq, hqp, hLp, hLq, hS⟩ := hrel
        have HS := Lib.hid hS
        have HL := Lib.hid hLp
        clear hS hLp
        have hi2 : IntKind.i64.wrap ((i : Int) + 1) = (i : Int) + 1 := IntWalk.i64_in _ (by omega)
        obtain ⟨m1, hm1⟩ : ∃ m1, i % 2 = m1 := ⟨_, rfl⟩
        obtain ⟨m2, hm2⟩ : ∃ m2, (i + 1) % 2 = m2 := ⟨_, rfl⟩
        have hb1 : m1 < 2 := by omega
        have hb2 : m2 < 2 := by omega
        have t1 : Int.tmod (i : Int) 2 = (m1 : Int) := by rw [← hm1]; exact (Int.ofNat_tmod i 2).symm
        have t2 : Int.tmod ((i : Int) + 1) 2 = (m2 : Int) := by rw [← hm2]; exact (Int.ofNat_tmod (i + 1) 2).symm
        rw [hm1, hm2] at HS
        have c0 := HS.out.c0
        have c1 := HS.out.c1
        have lp := HL.out.1
        by_cases hlt : i < x.length
        · have hi1 : (i : Int) < x.length := by omega
          have Hnext : Hid ((i + 2) % 2 = m1) := Lib.hid (by omega)
          have Hnext2 := Lib.hid hm2
          clear hm1 hm2
          obtain ⟨_, _, b1, o1, e1, _, _, ha1, ht1⟩ := Hv1.out
          obtain ⟨rfl, _, rfl⟩ := Value.slice.inj e1
          obtain ⟨rfl, rfl⟩ : g1 = b1 ∧ 0 = o1 := by simpa using ha1 (by omega)
          have k1 := ht1 i hlt wr HS.out.old
          rw [Nat.zero_add] at k1
          clear ht1 ha1 e1
          have C0 := later c0
          have C1 := later c1
          go_upto_region 16 with fail
          refine wp_region_old (Old.refl wr) (by kernel_rfl) (by kernel_rfl) ?_
          repeat (go_big_quiet_step (fail))
          refine wpQuiet_nil ?_
          rintro ⟨wq, hq⟩
          dsimp only
          have HS1 := Lib.hid (HS.out.later hq)
          clear HS c0 c1 C0 C1 k1 hq
          have cq0 := HS1.out.q.cell (k := 0) (by omega)
          have fq0 := HS1.out.q.frozen 0
          have HS2 := Lib.hid ((HS1.out.swap.put h2q hRq (Ne.symm hqp) 0 ((i : Int) + 1)).swap)
          have HQ := Lib.hid (LevUp.first (x := x) (y := y) (i := i + 1) (L := Lq) (v := (i : Int) + 1) (by omega) (by rw [lev_0r]; rfl))
          clear HS1
          go_wp2_with fail
          go_loopw [65] (fun jv wr => ∃ (j : Nat) (Lq : List Int), j ≤ y.length ∧ jv = .int .i64 j ∧ LevUp x y (i + 1) j Lq ∧ ApS 3 w w2 R k p m1 q m2 wr Lp Lq) (fun jv _ => y.length - (intOf jv).toNat)
          case atStart => exact ⟨0, _, Nat.zero_le _, rfl, HQ.out, HS2.out⟩
          case round =>
            clear HS2 HQ cq0 fq0 hLq Lq wq
            obtain ⟨j, Lq, hj, rfl, hLq, hS⟩ := hrel
            have HS := Lib.hid hS
            have HQ := Lib.hid hLq
            clear hS hLq
            have lq := HQ.out.1
            by_cases hlt2 : j < y.length
            · have hj1 : (j : Int) < y.length := by omega
              have hj2 : IntKind.i64.wrap ((j : Int) + 1) = (j : Int) + 1 := IntWalk.i64_in _ (by omega)
              have hj3 : (j : Int) + 1 < k := by omega
              have hj4 : (0 : Int) ≤ (j : Int) + 1 := by omega
              have hj5 : (j : Int) < k := by omega
              obtain ⟨_, _, b2, o2', e2, _, _, ha2, ht2⟩ := Hv2.out
              obtain ⟨rfl, _, rfl⟩ := Value.slice.inj e2
              obtain ⟨rfl, rfl⟩ : g2 = b2 ∧ 0 = o2' := by simpa using ha2 (by omega)
              have k2 := ht2 j hlt2 wr HS.out.old
              rw [Nat.zero_add] at k2
              clear ht2 ha2 e2
              have cA := HS.out.p.cell (k := j) (by omega)
              have cB := HS.out.p.cell (k := j + 1) (by omega)
              have cC := HS.out.q.cell (k := j) (by omega)
              have cD := HS.out.q.cell (k := j + 1) (by omega)
              have fD := HS.out.q.frozen (j + 1)
              rw [HL.out.2 j (by omega)] at cA
              rw [HL.out.2 (j + 1) (by omega)] at cB
              rw [HQ.out.2 j (Nat.le_refl _)] at cC
              have hss : lev x y (i + 1) (j + 1) = min (lev x y i j + if ix x i = ix y j then 0 else 1) (min (lev x y i (j + 1) + 1) (lev x y (i + 1) j + 1)) := lev_ss x y i j
              have l1 := (lev_le x y i j).1
              have l2 := (lev_le x y i (j + 1)).1
              have l3 := (lev_le x y (i + 1) j).1
              have HQ1 := Lib.hid (fun v h => HQ.out.put (v := v) hlt2 h)
              have HS1 := Lib.hid (fun v => (HS.out.drew.swap.put h2q hRq (Ne.symm hqp) (j + 1) v).swap)
              clear HQ HS
              generalize lev x y i j = A at *
              generalize lev x y i (j + 1) = B at *
              generalize lev x y (i + 1) j = C at *
              generalize lev x y (i + 1) (j + 1) = D at *
              generalize ix x i = X at *
              generalize ix y j = Y at *
              have hA : A ≤ 8388610 := by omega
              have hB : B ≤ 8388610 := by omega
              have hC : C ≤ 8388610 := by omega
              clear l1 l2 l3
              by_cases hxy : X = Y
              · rw [if_pos hxy] at hss
                subst hxy
                have hv : min (min (A : Int) ((B : Int) + 1)) ((C : Int) + 1) = (D : Int) := by omega
                clear hss
                go_upto_region 24 with fail
                refine wp_region_still_tail 17 (by kernel_rfl) (by kernel_rfl) ?_
                simp only [List.take_succ_cons, List.take_zero, List.drop_succ_cons, List.drop_zero]
                repeat still_step
                refine wpStill_nil ?_
                go_wp2_with fail
                go_roundw
                case rel =>
                  refine ⟨j + 1, _, by omega, by go_num, ?_, HS1.out _⟩
                  exact HQ1.out _ (by rw [← hv]; omega)
                case measure => simp [intOf]; omega
              · rw [if_neg hxy] at hss
                have hv : min (min ((A : Int) + 1) ((B : Int) + 1)) ((C : Int) + 1) = (D : Int) := by omega
                clear hss
                go_upto_region 24 with fail
                refine wp_region_still_tail 17 (by kernel_rfl) (by kernel_rfl) ?_
                simp only [List.take_succ_cons, List.take_zero, List.drop_succ_cons, List.drop_zero]
                repeat still_step
                refine wpStill_nil ?_
                go_wp2_with fail
                go_roundw
                case rel =>
                  refine ⟨j + 1, _, by omega, by go_num, ?_, HS1.out _⟩
                  exact HQ1.out _ (by rw [← hv]; omega)
                case measure => simp [intOf]; omega
            · obtain rfl : j = y.length := by omega
              have hj1 : ¬ (y.length : Int) < y.length := by omega
              go_wp2_with fail
              go_roundw
              case rel => exact ⟨i + 1, q, p, Lq, Lp, by omega, by go_num, h2q, hRq, h2p, hRp, Ne.symm hqp, HQ.out, by omega, by rw [Hnext2.out, Hnext.out]; exact HS.out.swap⟩
              case measure => simp [intOf]; omega
        · obtain rfl : i = x.length := by omega
          have hi1 : ¬ (x.length : Int) < x.length := by omega
          have cA := HS.out.p.cell (k := y.length) (by omega)
          rw [HL.out.2 y.length (Nat.le_refl _)] at cA
          have Ho := Lib.hid (o2.trans HS.out.old)
          have Hd := Lib.hid (show levL x y = lev x y x.length y.length from rfl)
          clear HL HS
          generalize lev x y x.length y.length = D at *
          go_wp2_with fail
          go_ret
          exact ⟨by rw [Hd.out]; rfl, Ho.out⟩
end Go.Proofs.YtpifkinlaicliaaGreatDoor
