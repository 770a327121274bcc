/-
  REFERENCES ALIKE; an error as it is told.
-/
import Derived.Test.YtkaoipegbjmlnaaDoorZRefsZ
import Derived.BigRegion
namespace Go.Proofs.YtkaoipegbjmlnaaDoor
open Go.RowKit
attribute [local go_sem] Old.refl Old.alloc Old.drew Old.setCell OldW.old

set_option maxRecDepth 100000 in
set_option maxHeartbeats 3200000 in
theorem refs_same (u v : Value) (l : List Rfr) (w : World) (hu : Recs rfE w u l) (hv : Recs rfE w v l) :
    Calls Tryd.prog 8 #[u, v] w fun e w' => e = .returned (.bool true) ∧ Old w w' := by
  obtain ⟨a1, p1, b1, f1, rfl, hn1, hn2, ha, ht⟩ := hu
  obtain ⟨a2, p2, b2, f2, rfl, hm1, hm2, hb, hs⟩ := hv
  have Ha := Lib.hid ha
  have Hb := Lib.hid hb
  have Ht := Lib.hid ht
  have Hs := Lib.hid hs
  clear ha hb ht hs
  go_enter Tryd.func8, Tryd.ntmps8
  go_wp2_with fail
  go_loopw [5] (fun j wr => ∃ k : Nat, k ≤ l.length ∧ j = .int .i64 k ∧ Old w wr) (fun j _ => l.length - (intOf j).toNat)
  case atStart => exact ⟨0, by omega, rfl, Old.refl _⟩
  case round =>
    obtain ⟨k, hk, rfl, ho⟩ := hrel
    by_cases hlt : k < l.length
    · have hk1 : (k : Int) < l.length := by omega
      obtain rfl := Ha.out (by omega)
      obtain rfl := Hb.out (by omega)
      obtain ⟨x, hx⟩ : ∃ x, l[k]? = some x := ⟨_, List.getElem?_eq_getElem hlt⟩
      have K1 := fun V (o : Old wr V) => Recs.six Ht.out hx V (ho.trans o)
      have K2 := fun V (o : Old wr V) => Recs.six Hs.out hx V (ho.trans o)
      clear hx
      obtain ⟨xf, xt, xn, xs, xl, xc⟩ := x
      dsimp only at K1 K2
      go_wp2_with fail
      have k0 := fun V (o : Old wr V) => (K1 V o).1
      have k1 := fun V (o : Old wr V) => (K1 V o).2.1
      have k2 := fun V (o : Old wr V) => (K1 V o).2.2.1
      have k3 := fun V (o : Old wr V) => (K1 V o).2.2.2.1
      have k4 := fun V (o : Old wr V) => (K1 V o).2.2.2.2.1
      have k5 := fun V (o : Old wr V) => (K1 V o).2.2.2.2.2
      have j0 := fun V (o : Old wr V) => (K2 V o).1
      have j1 := fun V (o : Old wr V) => (K2 V o).2.1
      have j2 := fun V (o : Old wr V) => (K2 V o).2.2.1
      have j3 := fun V (o : Old wr V) => (K2 V o).2.2.2.1
      have j4 := fun V (o : Old wr V) => (K2 V o).2.2.2.2.1
      have j5 := fun V (o : Old wr V) => (K2 V o).2.2.2.2.2
      have k0' := fun A B => k0 _ (((Old.refl wr).alloc A).alloc B)
      have k1' := fun A B => k1 _ (((Old.refl wr).alloc A).alloc B)
      have k2' := fun A B => k2 _ (((Old.refl wr).alloc A).alloc B)
      have k3' := fun A B => k3 _ (((Old.refl wr).alloc A).alloc B)
      have k4' := fun A B => k4 _ (((Old.refl wr).alloc A).alloc B)
      have k5' := fun A B => k5 _ (((Old.refl wr).alloc A).alloc B)
      have j0' := fun A B => j0 _ (((Old.refl wr).alloc A).alloc B)
      have j1' := fun A B => j1 _ (((Old.refl wr).alloc A).alloc B)
      have j2' := fun A B => j2 _ (((Old.refl wr).alloc A).alloc B)
      have j3' := fun A B => j3 _ (((Old.refl wr).alloc A).alloc B)
      have j4' := fun A B => j4 _ (((Old.refl wr).alloc A).alloc B)
      have j5' := fun A B => j5 _ (((Old.refl wr).alloc A).alloc B)
      have hss : (xs.toList != xs.toList) = false := by simp
      go_region
      all_goals
        clear k0 k1 k2 k3 k4 k5 j0 j1 j2 j3 j4 j5 k0' k1' k2' k3' k4' k5' j0' j1' j2' j3' j4' j5' K1 K2
        go_wp2_with fail
        go_roundw
      all_goals first
        | exact ⟨k + 1, by omega, by go_num, (((ho.alloc _).alloc _).drew)⟩
        | exact ⟨k + 1, by omega, by go_num, ((ho.alloc _).alloc _)⟩
        | (simp [intOf]; omega)
    · have hk1 : ¬ (k : Int) < l.length := by omega
      go_wp2_with fail
      go_ret
      exact ⟨rfl, ho⟩
set_option maxHeartbeats 1600000 in
theorem told8_nil (w : World) : Calls Tryd.prog 9 #[.nilIface, .agg (wrgC noF)] w fun e w' => e = .returned (.bool true) ∧ Old w w' := by
  unfold wrgC noF
  go_enter Tryd.func9, Tryd.ntmps9
  go_wp2_with fail
  go_ret
  exact ⟨rfl, (Old.refl w).alloc _⟩
set_option maxRecDepth 100000 in
set_option maxHeartbeats 1600000 in
theorem told8_err {w : World} {v : Value} {f : Flt} (h : IsErr w v f.code f.src f.line f.col f.word) (hc : ¬ f.code = 0) : Calls Tryd.prog 9 #[v, .agg (wrgC f)] w fun e w' => e = .returned (.bool true) ∧ Old w w' := by
  have hT := fun W (o : Old w W) => Told_any (h.old o)
  obtain ⟨g, rfl, hcs⟩ := h
  have hcb : (f.code == 0) = false := by rw [beq_eq_false_iff_ne]; exact hc
  have hs : (f.word.toList == f.word.toList) = true := by simp
  clear hcs
  unfold wrgC
  go_enter Tryd.func9, Tryd.ntmps9
  go_wp2_with fail
  refine (hT _ ((Old.refl w).alloc _)).mono ?_
  rintro e w1 ⟨rfl, ho⟩
  unfold fltC
  have hk := ho.size
  have c0 := ho.cell (p := ⟨w.heap.size, 0, none⟩) (by simp [go_sem]; rfl)
  have c1 := ho.cell (p := ⟨w.heap.size, 1, none⟩) (by simp [go_sem]; rfl)
  have c2 := ho.cell (p := ⟨w.heap.size, 2, none⟩) (by simp [go_sem]; rfl)
  have c3 := ho.cell (p := ⟨w.heap.size, 3, none⟩) (by simp [go_sem]; rfl)
  have c4 := ho.cell (p := ⟨w.heap.size, 4, none⟩) (by simp [go_sem]; rfl)
  have hlt : w.heap.size < w1.heap.size := by have := ho.size; simp [go_sem] at this; omega
  have hne : ¬ w1.heap.size = w.heap.size := by omega
  go_wp2_with fail
  go_ret
  exact ⟨rfl, (((Old.refl w).alloc _).trans ho).alloc _⟩
end Go.Proofs.YtkaoipegbjmlnaaDoor
