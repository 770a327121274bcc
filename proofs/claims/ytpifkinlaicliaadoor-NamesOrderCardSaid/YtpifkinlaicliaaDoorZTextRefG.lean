/-
  TEXT, THE DOCUMENT's, G: codes.
-/
import Derived.Test.YtpifkinlaicliaaDoorZTextRefE
import Derived.Test.YtpifkinlaicliaaDoorZTextWords
namespace Go.Proofs.YtpifkinlaicliaaDoor
open Go.RowKit
attribute [local go_sem] Old.refl Old.alloc Old.drew Old.setCell OldW.old

def rsC (t : List Chr) : List Int := t.map (fun c => (c.r : Int))
theorem rsC_get {t : List Chr} {k : Nat} {x : Chr} (h : t[k]? = some x) : (rsC t)[k]? = some (x.r : Int) := by unfold rsC; rw [List.getElem?_map, h]; rfl
theorem rsC_len (t : List Chr) : (rsC t).length = t.length := by simp [rsC]
theorem wrap64_in {x : Int} (h : -2147483648 ≤ x ∧ x ≤ 2147483647) : wrap64 x = x := by
  unfold wrap64
  omega
set_option maxRecDepth 100000 in
set_option maxHeartbeats 3200000 in
theorem codes_small (u v : Value) (x y : List Chr) (w : World) (hx : Recs chE w u x) (hy : Recs chE w v y) (bx : ∀ c ∈ x, c.r ≤ 1114111) (by' : ∀ c ∈ y, c.r ≤ 1114111) (lx : x.length ≤ 4194304) (ly : y.length ≤ 4194304) :
    Calls Tryd.prog 33 #[u, v, .bool true] w fun e w' => e = .returned (.int .i64 (lexL (byF smallC) (rsC x) (rsC y))) ∧ Old w w' := by
  obtain ⟨a1, cap1, b1, off1, rfl, hc11, hc12, ha1, ht1⟩ := hx
  obtain ⟨a2, cap2, b2, off2, rfl, hc21, hc22, ha2, ht2⟩ := hy
  have Ha1 := Lib.hid ha1
  have Ha2 := Lib.hid ha2
  have Ht1 := Lib.hid ht1
  have Ht2 := Lib.hid ht2
  have Hend := Lib.hid (lexL_end (f := byF smallC) (x := rsC x) (y := rsC y) rfl)
  rw [rsC_len, rsC_len] at Hend
  clear ha1 ha2 ht1 ht2
  go_enter Tryd.func33, Tryd.ntmps33
  go_wp2_with fail
  go_loopw [7] (fun j wr => ∃ k : Nat, k ≤ x.length ∧ k ≤ y.length ∧ j = .int .i64 k ∧ lexL (byF smallC) ((rsC x).drop k) ((rsC y).drop k) = lexL (byF smallC) (rsC x) (rsC y) ∧ Old w wr) (fun j _ => x.length - (intOf j).toNat)
  case atStart => exact ⟨0, Nat.zero_le _, Nat.zero_le _, rfl, rfl, Old.refl _⟩
  case round =>
    obtain ⟨k, hka, hkb, rfl, hat, ho⟩ := hrel
    have Hat := Lib.hid hat
    clear hat
    by_cases h1 : k < x.length
    · have h1' : decide ((k : Int) < x.length) = true := by simp; omega
      have hi1 : (k : Int) < x.length := by omega
      by_cases h2 : k < y.length
      · have h2' : decide ((k : Int) < y.length) = true := by simp; omega
        have hi2 : (k : Int) < y.length := by omega
        obtain rfl := Ha1.out (by omega)
        obtain rfl := Ha2.out (by omega)
        obtain ⟨p, hp⟩ : ∃ p, x[k]? = some p := ⟨_, List.getElem?_eq_getElem h1⟩
        obtain ⟨q, hq⟩ : ∃ q, y[k]? = some q := ⟨_, List.getElem?_eq_getElem h2⟩
        have hpb := bx p (List.mem_of_getElem? hp)
        have hqb := by' q (List.mem_of_getElem? hq)
        have K1 := Recs.chr Ht1.out hp
        have K2 := Recs.chr Ht2.out hq
        have k1 := fun V (o : Old wr V) => (K1 V (ho.trans o)).1
        have k2 := fun V (o : Old wr V) => (K2 V (ho.trans o)).1
        have hsp : (smallC p.r = smallC q.r ∧ lexL (byF smallC) ((rsC x).drop k) ((rsC y).drop k) = lexL (byF smallC) ((rsC x).drop (k + 1)) ((rsC y).drop (k + 1))) ∨ (¬ smallC p.r = smallC q.r ∧ lexL (byF smallC) ((rsC x).drop k) ((rsC y).drop k) = Lib.compareInt (smallC p.r) (smallC q.r)) := by
          by_cases h : smallC p.r = smallC q.r
          · exact .inl ⟨h, lexL_skip (rsC_get hp) (rsC_get hq) (by show Lib.compareInt _ _ = 0; rw [h]; exact compareInt_zero _)⟩
          · exact .inr ⟨h, lexL_hit (rsC_get hp) (rsC_get hq) (compareInt_ne h)⟩
        have HS1 := Lib.hid (fun V => RSmall_any p.r V (by omega))
        have HS2 := Lib.hid (fun V => RSmall_any q.r V (by omega))
        have hg1 := smallC_bounds (r := (p.r : Int)) (by omega)
        have hg2 := smallC_bounds (r := (q.r : Int)) (by omega)
        clear hp hq K1 K2
        generalize p.r = pr at *
        generalize q.r = qr at *
        have wr1 : wrap64 (smallC (pr : Int)) = smallC (pr : Int) := wrap64_in hg1
        have wr2 : wrap64 (smallC (qr : Int)) = smallC (qr : Int) := wrap64_in hg2
        clear hg1 hg2
        generalize smallC (pr : Int) = fp at *
        generalize smallC (qr : Int) = fq at *
        rcases hsp with ⟨he, hs⟩ | ⟨he, hs⟩
        · have Hs := Lib.hid hs
          have hbn : (fp != fq) = false := by rw [bne_eq_false_iff_eq]; exact he
          clear hs he
          go_upto_region 4 with fail
          refine wp_region_old (Old.refl _) (by kernel_rfl) (by kernel_rfl) ?_
          repeat (go_big_quiet_step (fail))
          refine wpQuiet_nil ?_
          rintro ⟨wv, hv⟩
          dsimp only
          go_wp2_with fail
          refine (HS1.out _).mono ?_
          rintro e w8 ⟨rfl, rfl⟩
          go_wp2_with fail
          refine (HS2.out _).mono ?_
          rintro e w9 ⟨rfl, rfl⟩
          go_wp2_with fail
          go_roundw
          case rel => exact ⟨k + 1, by omega, by omega, by go_num, by rw [← Hs.out]; exact Hat.out, ho.trans hv⟩
          case measure => simp [intOf]; omega
        · have Hs := Lib.hid hs
          have hbn : (fp != fq) = true := by rw [bne_iff_ne]; exact he
          clear hs he
          go_upto_region 4 with fail
          refine wp_region_old (Old.refl _) (by kernel_rfl) (by kernel_rfl) ?_
          repeat (go_big_quiet_step (fail))
          refine wpQuiet_nil ?_
          rintro ⟨wv, hv⟩
          dsimp only
          go_wp2_with fail
          refine (HS1.out _).mono ?_
          rintro e w8 ⟨rfl, rfl⟩
          go_wp2_with fail
          refine (HS2.out _).mono ?_
          rintro e w9 ⟨rfl, rfl⟩
          go_wp2_with fail
          refine (sign_any _ _ _).mono ?_
          rintro e w7 ⟨rfl, rfl⟩
          go_wp2_with fail
          go_ret
          exact ⟨by rw [← Hat.out, Hs.out]; rfl, ho.trans hv⟩
      · have h2' : decide ((k : Int) < y.length) = false := by simp; omega
        have He : Hid (lexL (byF smallC) ((rsC x).drop k) ((rsC y).drop k) = Lib.compareInt x.length y.length) := by
          have h := Hend.out
          rw [show min x.length y.length = k from by omega] at h
          exact h
        go_wp2_with (go_at_call 32; refine (sign_any _ _ _).mono ?_; rintro e w1 ⟨rfl, rfl⟩)
        go_ret
        exact ⟨by rw [← Hat.out, He.out]; rfl, ho⟩
    · have h1' : decide ((k : Int) < x.length) = false := by simp; omega
      have He : Hid (lexL (byF smallC) ((rsC x).drop k) ((rsC y).drop k) = Lib.compareInt x.length y.length) := by
        have h := Hend.out
        rw [show min x.length y.length = k from by omega] at h
        exact h
      go_wp2_with (go_at_call 32; refine (sign_any _ _ _).mono ?_; rintro e w1 ⟨rfl, rfl⟩)
      go_ret
      exact ⟨by rw [← Hat.out, He.out]; rfl, ho⟩
set_option maxRecDepth 100000 in
set_option maxHeartbeats 3200000 in
theorem codes_same (u v : Value) (x y : List Chr) (w : World) (hx : Recs chE w u x) (hy : Recs chE w v y) (bx : ∀ c ∈ x, c.r ≤ 1114111) (by' : ∀ c ∈ y, c.r ≤ 1114111) (lx : x.length ≤ 4194304) (ly : y.length ≤ 4194304) :
    Calls Tryd.prog 33 #[u, v, .bool false] w fun e w' => e = .returned (.int .i64 (lexL (byF id) (rsC x) (rsC y))) ∧ Old w w' := by
  obtain ⟨a1, cap1, b1, off1, rfl, hc11, hc12, ha1, ht1⟩ := hx
  obtain ⟨a2, cap2, b2, off2, rfl, hc21, hc22, ha2, ht2⟩ := hy
  have Ha1 := Lib.hid ha1
  have Ha2 := Lib.hid ha2
  have Ht1 := Lib.hid ht1
  have Ht2 := Lib.hid ht2
  have Hend := Lib.hid (lexL_end (f := byF id) (x := rsC x) (y := rsC y) rfl)
  rw [rsC_len, rsC_len] at Hend
  clear ha1 ha2 ht1 ht2
  go_enter Tryd.func33, Tryd.ntmps33
  go_wp2_with fail
  go_loopw [7] (fun j wr => ∃ k : Nat, k ≤ x.length ∧ k ≤ y.length ∧ j = .int .i64 k ∧ lexL (byF id) ((rsC x).drop k) ((rsC y).drop k) = lexL (byF id) (rsC x) (rsC y) ∧ Old w wr) (fun j _ => x.length - (intOf j).toNat)
  case atStart => exact ⟨0, Nat.zero_le _, Nat.zero_le _, rfl, rfl, Old.refl _⟩
  case round =>
    obtain ⟨k, hka, hkb, rfl, hat, ho⟩ := hrel
    have Hat := Lib.hid hat
    clear hat
    by_cases h1 : k < x.length
    · have h1' : decide ((k : Int) < x.length) = true := by simp; omega
      have hi1 : (k : Int) < x.length := by omega
      by_cases h2 : k < y.length
      · have h2' : decide ((k : Int) < y.length) = true := by simp; omega
        have hi2 : (k : Int) < y.length := by omega
        obtain rfl := Ha1.out (by omega)
        obtain rfl := Ha2.out (by omega)
        obtain ⟨p, hp⟩ : ∃ p, x[k]? = some p := ⟨_, List.getElem?_eq_getElem h1⟩
        obtain ⟨q, hq⟩ : ∃ q, y[k]? = some q := ⟨_, List.getElem?_eq_getElem h2⟩
        have hpb := bx p (List.mem_of_getElem? hp)
        have hqb := by' q (List.mem_of_getElem? hq)
        have K1 := Recs.chr Ht1.out hp
        have K2 := Recs.chr Ht2.out hq
        have k1 := fun V (o : Old wr V) => (K1 V (ho.trans o)).1
        have k2 := fun V (o : Old wr V) => (K2 V (ho.trans o)).1
        have hsp : (id (p.r : Int) = id (q.r : Int) ∧ lexL (byF id) ((rsC x).drop k) ((rsC y).drop k) = lexL (byF id) ((rsC x).drop (k + 1)) ((rsC y).drop (k + 1))) ∨ (¬ id (p.r : Int) = id (q.r : Int) ∧ lexL (byF id) ((rsC x).drop k) ((rsC y).drop k) = Lib.compareInt (id (p.r : Int)) (id (q.r : Int))) := by
          by_cases h : id (p.r : Int) = id (q.r : Int)
          · exact .inl ⟨h, lexL_skip (rsC_get hp) (rsC_get hq) (by show Lib.compareInt _ _ = 0; rw [h]; exact compareInt_zero _)⟩
          · exact .inr ⟨h, lexL_hit (rsC_get hp) (rsC_get hq) (compareInt_ne h)⟩
        have hg1 : -2147483648 ≤ id (p.r : Int) ∧ id (p.r : Int) ≤ 2147483647 := by show -2147483648 ≤ (p.r : Int) ∧ (p.r : Int) ≤ 2147483647; omega
        have hg2 : -2147483648 ≤ id (q.r : Int) ∧ id (q.r : Int) ≤ 2147483647 := by show -2147483648 ≤ (q.r : Int) ∧ (q.r : Int) ≤ 2147483647; omega
        clear hp hq K1 K2
        generalize p.r = pr at *
        generalize q.r = qr at *
        have wr1 : wrap64 (id (pr : Int)) = id (pr : Int) := wrap64_in hg1
        have wr2 : wrap64 (id (qr : Int)) = id (qr : Int) := wrap64_in hg2
        clear hg1 hg2
        change ∀ V, Old wr V → V.cell? ⟨b1, off1 + k * 4, none⟩ = some (.int .i32 (id (pr : Int))) at k1
        change ∀ V, Old wr V → V.cell? ⟨b2, off2 + k * 4, none⟩ = some (.int .i32 (id (qr : Int))) at k2
        generalize id (pr : Int) = fp at *
        generalize id (qr : Int) = fq at *
        rcases hsp with ⟨he, hs⟩ | ⟨he, hs⟩
        · have Hs := Lib.hid hs
          have hbn : (fp != fq) = false := by rw [bne_eq_false_iff_eq]; exact he
          clear hs he
          go_upto_region 4 with fail
          refine wp_region_old (Old.refl _) (by kernel_rfl) (by kernel_rfl) ?_
          repeat (go_big_quiet_step (fail))
          refine wpQuiet_nil ?_
          rintro ⟨wv, hv⟩
          dsimp only
          go_wp2_with fail
          go_roundw
          case rel => exact ⟨k + 1, by omega, by omega, by go_num, by rw [← Hs.out]; exact Hat.out, ho.trans hv⟩
          case measure => simp [intOf]; omega
        · have Hs := Lib.hid hs
          have hbn : (fp != fq) = true := by rw [bne_iff_ne]; exact he
          clear hs he
          go_upto_region 4 with fail
          refine wp_region_old (Old.refl _) (by kernel_rfl) (by kernel_rfl) ?_
          repeat (go_big_quiet_step (fail))
          refine wpQuiet_nil ?_
          rintro ⟨wv, hv⟩
          dsimp only
          go_wp2_with fail
          refine (sign_any _ _ _).mono ?_
          rintro e w7 ⟨rfl, rfl⟩
          go_wp2_with fail
          go_ret
          exact ⟨by rw [← Hat.out, Hs.out]; rfl, ho.trans hv⟩
      · have h2' : decide ((k : Int) < y.length) = false := by simp; omega
        have He : Hid (lexL (byF id) ((rsC x).drop k) ((rsC y).drop k) = Lib.compareInt x.length y.length) := by
          have h := Hend.out
          rw [show min x.length y.length = k from by omega] at h
          exact h
        go_wp2_with (go_at_call 32; refine (sign_any _ _ _).mono ?_; rintro e w1 ⟨rfl, rfl⟩)
        go_ret
        exact ⟨by rw [← Hat.out, He.out]; rfl, ho⟩
    · have h1' : decide ((k : Int) < x.length) = false := by simp; omega
      have He : Hid (lexL (byF id) ((rsC x).drop k) ((rsC y).drop k) = Lib.compareInt x.length y.length) := by
        have h := Hend.out
        rw [show min x.length y.length = k from by omega] at h
        exact h
      go_wp2_with (go_at_call 32; refine (sign_any _ _ _).mono ?_; rintro e w1 ⟨rfl, rfl⟩)
      go_ret
      exact ⟨by rw [← Hat.out, He.out]; rfl, ho⟩
end Go.Proofs.YtpifkinlaicliaaDoor
