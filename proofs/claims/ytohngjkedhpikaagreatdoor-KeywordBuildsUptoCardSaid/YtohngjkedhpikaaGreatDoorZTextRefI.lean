/-
  TEXT, THE DOCUMENT's, E: sign, bytes, codes, two elements.
-/
import Derived.Test.YtohngjkedhpikaaGreatDoorZBuilder
import Derived.Test.YtohngjkedhpikaaGreatDoorZTextDigits
import Derived.Test.YtohngjkedhpikaaGreatDoorZTextRefH
namespace Go.Proofs.YtohngjkedhpikaaGreatDoor
open Go.RowKit
attribute [local go_sem] Old.refl Old.alloc Old.drew Old.setCell OldW.old

theorem sign_any (x y : Int) (w : World) : Calls Tryz.prog 61 #[.int .i64 x, .int .i64 y] w fun e w' => e = .returned (.int .i64 (Lib.compareInt x y)) ∧ w' = w := by
  go_enter Tryz.func61, Tryz.ntmps61
  go_wp2
  all_goals
    go_ret
    refine ⟨?_, rfl⟩
    unfold Lib.compareInt
    first
      | (rw [if_pos (by omega)]; rfl)
      | (rw [if_neg (by omega), if_pos (by omega)]; rfl)
      | (rw [if_neg (by omega), if_neg (by omega)]; rfl)
theorem w64 {x : Int} (h0 : 0 ≤ x) (h1 : x ≤ 9223372036854775807) : wrap64 x = x := by
  unfold wrap64
  omega
theorem compareInt_ne {x y : Int} (h : ¬ x = y) : ¬ Lib.compareInt x y = 0 := fun k => h (compareInt_eq k)
set_option maxRecDepth 100000 in
set_option maxHeartbeats 3200000 in
theorem bytes_any (a b : ByteArray) (w : World) (ha : a.size ≤ 4194304) :
    Calls Tryz.prog 63 #[.string a, .string b] w fun e w' => e = .returned (.int .i64 (Lib.compareBytes a.data.toList b.data.toList)) ∧ Old w w' := by
  have Hb := Lib.hid (bytes_lex a.data.toList b.data.toList)
  have Hend := Lib.hid (lexL_end (f := fun x y : UInt8 => Lib.compareInt x.toNat y.toNat) (x := a.data.toList) (y := b.data.toList) rfl)
  rw [str_len, str_len] at Hend
  go_enter Tryz.func63, Tryz.ntmps63
  go_wp2_with fail
  go_loopw [5] (fun j wr => ∃ k : Nat, k ≤ a.size ∧ k ≤ b.size ∧ j = .int .i64 k ∧ lexL (fun x y : UInt8 => Lib.compareInt x.toNat y.toNat) (a.data.toList.drop k) (b.data.toList.drop k) = Lib.compareBytes a.data.toList b.data.toList ∧ Old w wr) (fun j _ => a.size - (intOf j).toNat)
  case atStart => exact ⟨0, Nat.zero_le _, Nat.zero_le _, rfl, Hb.out.symm, Old.refl _⟩
  case round =>
    obtain ⟨k, hka, hkb, rfl, hat, ho⟩ := hrel
    have Hat := Lib.hid hat
    clear hat
    by_cases h1 : k < a.size
    · have h1' : decide ((k : Int) < a.size) = true := by simp; omega
      by_cases h2 : k < b.size
      · have h2' : decide ((k : Int) < b.size) = true := by simp; omega
        have hi1 : (k : Int) < a.size := by omega
        have hi2 : (k : Int) < b.size := by omega
        have e1 := byte_get a h1
        have e2 := byte_get b h2
        have g1 : a.data.toList[k]? = some (a[k]'h1) := by rw [e1, List.getD_eq_getElem?_getD, List.getElem?_eq_getElem (by rw [str_len]; exact h1)]; rfl
        have g2 : b.data.toList[k]? = some (b[k]'h2) := by rw [e2, List.getD_eq_getElem?_getD, List.getElem?_eq_getElem (by rw [str_len]; exact h2)]; rfl
        have hsp : ((a[k]'h1).toNat = (b[k]'h2).toNat ∧ lexL (fun x y : UInt8 => Lib.compareInt x.toNat y.toNat) (a.data.toList.drop k) (b.data.toList.drop k) = lexL (fun x y : UInt8 => Lib.compareInt x.toNat y.toNat) (a.data.toList.drop (k + 1)) (b.data.toList.drop (k + 1))) ∨ (¬ (a[k]'h1).toNat = (b[k]'h2).toNat ∧ lexL (fun x y : UInt8 => Lib.compareInt x.toNat y.toNat) (a.data.toList.drop k) (b.data.toList.drop k) = Lib.compareInt (a[k]'h1).toNat (b[k]'h2).toNat) := by
          by_cases h : (a[k]'h1).toNat = (b[k]'h2).toNat
          · exact .inl ⟨h, lexL_skip g1 g2 (by show Lib.compareInt _ _ = 0; rw [h]; exact compareInt_zero _)⟩
          · exact .inr ⟨h, lexL_hit g1 g2 (compareInt_ne (by omega))⟩
        clear e1 e2 g1 g2
        have wa : wrap64 ((a[k]'h1).toNat : Int) = (a[k]'h1).toNat := w64 (by omega) (by have := (a[k]'h1).toNat_lt; omega)
        have wb : wrap64 ((b[k]'h2).toNat : Int) = (b[k]'h2).toNat := w64 (by omega) (by have := (b[k]'h2).toNat_lt; omega)
        rcases hsp with ⟨he, hs⟩ | ⟨he, hs⟩
        · have Hs := Lib.hid hs
          have hbn : (((a[k]'h1).toNat : Int) != ((b[k]'h2).toNat : Int)) = false := by rw [bne_eq_false_iff_eq]; omega
          clear hs he
          go_upto_region 4 with fail
          refine wp_region_old (Old.refl _) (by kernel_rfl) (by kernel_rfl) ?_
          repeat (go_big_quiet_step (fail))
          refine wpQuiet_nil ?_
          rintro ⟨wv, hv⟩
          dsimp only
          go_wp2_with fail
          go_roundw
          case rel => exact ⟨k + 1, by omega, by omega, by go_num, by rw [← Hs.out]; exact Hat.out, ho.trans hv⟩
          case measure => simp [intOf]; omega
        · have Hs := Lib.hid hs
          have hbn : (((a[k]'h1).toNat : Int) != ((b[k]'h2).toNat : Int)) = true := by rw [bne_iff_ne]; omega
          have HG := Lib.hid (fun (V : OldW wr) => (sign_any ((a[k]'h1).toNat : Int) ((b[k]'h2).toNat : Int) V.w').mono (fun e w' (h : _ ∧ w' = V.w') => (⟨h.1, h.2 ▸ Old.refl _⟩ : e = .returned (.int .i64 (Lib.compareInt ((a[k]'h1).toNat : Int) ((b[k]'h2).toNat : Int))) ∧ Old V.w' w')))
          clear hs he
          go_upto_region 4 with fail
          refine wp_region_old (Old.refl _) (by kernel_rfl) (by kernel_rfl) ?_
          repeat (go_big_quiet_step (fail))
          refine wpQuiet_nil ?_
          rintro ⟨wv, hv⟩
          dsimp only
          go_upto_region 5 with fail
          refine wp_region_old hv (by kernel_rfl) (by kernel_rfl) ?_
          repeat (go_big_quiet_step (with_reducible exact Calls.in_old (HG.out _)))
          refine wpQuiet_nil ?_
          rintro ⟨wu, hu⟩
          dsimp only
          go_wp2_with fail
          go_ret
          exact ⟨by rw [← Hat.out, Hs.out]; rfl, ho.trans hu⟩
      · have h2' : decide ((k : Int) < b.size) = false := by simp; omega
        have He : Hid (lexL (fun x y : UInt8 => Lib.compareInt x.toNat y.toNat) (a.data.toList.drop k) (b.data.toList.drop k) = Lib.compareInt a.size b.size) := by
          have h := Hend.out
          rw [show min a.size b.size = k from by omega] at h
          exact h
        go_wp2_with (go_at_call 61; refine (sign_any _ _ _).mono ?_; rintro e w1 ⟨rfl, rfl⟩)
        go_ret
        exact ⟨by rw [← Hat.out, He.out]; rfl, ho⟩
    · have h1' : decide ((k : Int) < a.size) = false := by simp; omega
      have He : Hid (lexL (fun x y : UInt8 => Lib.compareInt x.toNat y.toNat) (a.data.toList.drop k) (b.data.toList.drop k) = Lib.compareInt a.size b.size) := by
        have h := Hend.out
        rw [show min a.size b.size = k from by omega] at h
        exact h
      go_wp2_with (go_at_call 61; refine (sign_any _ _ _).mono ?_; rintro e w1 ⟨rfl, rfl⟩)
      go_ret
      exact ⟨by rw [← Hat.out, He.out]; rfl, ho⟩
set_option maxRecDepth 100000 in
set_option maxHeartbeats 3200000 in
theorem first_any (a b : El) (w : World) (ha : a.r ≤ 2147483647) (hb : b.r ≤ 2147483647) (hda : a.d.size ≤ 4194304) :
    Calls Tryz.prog 60 #[elV a, elV b] w fun e w' => e = .returned (.int .i64 (cmpEl a b)) ∧ Old w w' := by
  obtain ⟨ak, ar, ad⟩ := a
  obtain ⟨bk, br, bd⟩ := b
  unfold elV
  dsimp only at *
  have wr1 : wrap64 (ar : Int) = ar := w64 (by omega) (by omega)
  have wr2 : wrap64 (br : Int) = br := w64 (by omega) (by omega)
  by_cases h1 : ak = bk
  · have h1b : ((ak : Int) != bk) = false := by rw [bne_eq_false_iff_eq]; omega
    have hc0 : Lib.compareInt (ak : Int) bk = 0 := by rw [h1]; exact compareInt_zero _
    by_cases h2 : ak = 1
    · have h2b : ((ak : Int) != 1) = false := by rw [bne_eq_false_iff_eq]; omega
      have Hs := Lib.hid (show cmpEl ⟨ak, ar, ad⟩ ⟨bk, br, bd⟩ = orL [Lib.compareInt ad.size bd.size, Lib.compareBytes ad.data.toList bd.data.toList] from by unfold cmpEl; rw [if_neg (by simpa using hc0), if_pos h2])
      by_cases h3 : ad.size = bd.size
      · have h3b : ((ad.size : Int) != bd.size) = false := by rw [bne_eq_false_iff_eq]; omega
        have Ho := Lib.hid (show orL [Lib.compareInt ad.size bd.size, Lib.compareBytes ad.data.toList bd.data.toList] = Lib.compareBytes ad.data.toList bd.data.toList from by rw [orL_two, if_pos (by rw [h3]; exact compareInt_zero _)])
        have HB := Lib.hid (fun V => bytes_any ad bd V hda)
        clear h1 h2 h3 hc0
        go_enter Tryz.func60, Tryz.ntmps60
        go_wp2_with (go_at_call 63; refine (HB.out _).mono ?_; rintro e w1 ⟨rfl, ho1⟩)
        go_ret
        exact ⟨by rw [Hs.out, Ho.out]; rfl, (((Old.refl w).alloc _).alloc _).trans ho1⟩
      · have h3b : ((ad.size : Int) != bd.size) = true := by rw [bne_iff_ne]; omega
        have Ho := Lib.hid (show orL [Lib.compareInt ad.size bd.size, Lib.compareBytes ad.data.toList bd.data.toList] = Lib.compareInt ad.size bd.size from by rw [orL_two, if_neg (compareInt_ne (by omega))])
        clear h1 h2 h3 hc0
        go_enter Tryz.func60, Tryz.ntmps60
        go_wp2_with (go_at_call 61; refine (sign_any _ _ _).mono ?_; rintro e w1 ⟨rfl, rfl⟩)
        go_ret
        exact ⟨by rw [Hs.out, Ho.out]; rfl, ((Old.refl w).alloc _).alloc _⟩
    · have h2b : ((ak : Int) != 1) = true := by rw [bne_iff_ne]; omega
      have Hs := Lib.hid (show cmpEl ⟨ak, ar, ad⟩ ⟨bk, br, bd⟩ = Lib.compareInt ar br from by unfold cmpEl; rw [if_neg (by simpa using hc0), if_neg h2])
      clear h1 h2 hc0
      go_enter Tryz.func60, Tryz.ntmps60
      go_wp2_with (go_at_call 61; refine (sign_any _ _ _).mono ?_; rintro e w1 ⟨rfl, rfl⟩)
      go_ret
      exact ⟨by rw [Hs.out]; rfl, ((Old.refl w).alloc _).alloc _⟩
  · have h1b : ((ak : Int) != bk) = true := by rw [bne_iff_ne]; omega
    have Hs := Lib.hid (show cmpEl ⟨ak, ar, ad⟩ ⟨bk, br, bd⟩ = Lib.compareInt ak bk from by unfold cmpEl; rw [if_pos (show ¬ Lib.compareInt (ak : Int) bk = 0 from compareInt_ne (by omega))])
    clear h1
    go_enter Tryz.func60, Tryz.ntmps60
    go_wp2_with (go_at_call 61; refine (sign_any _ _ _).mono ?_; rintro e w1 ⟨rfl, rfl⟩)
    go_ret
    exact ⟨by rw [Hs.out]; rfl, ((Old.refl w).alloc _).alloc _⟩
end Go.Proofs.YtohngjkedhpikaaGreatDoor
/-
  TEXT, THE DOCUMENT's, G: codes.
-/


namespace Go.Proofs.YtohngjkedhpikaaGreatDoor
open Go.RowKit
attribute [local go_sem] Old.refl Old.alloc Old.drew Old.setCell OldW.old

def rsC (t : List Chr) : List Int := t.map (fun c => (c.r : Int))
theorem rsC_get {t : List Chr} {k : Nat} {x : Chr} (h : t[k]? = some x) : (rsC t)[k]? = some (x.r : Int) := by unfold rsC; rw [List.getElem?_map, h]; rfl
theorem rsC_len (t : List Chr) : (rsC t).length = t.length := by simp [rsC]
theorem wrap64_in {x : Int} (h : -2147483648 ≤ x ∧ x ≤ 2147483647) : wrap64 x = x := by
  unfold wrap64
  omega
set_option maxRecDepth 100000 in
set_option maxHeartbeats 3200000 in
theorem codes_small (u v : Value) (x y : List Chr) (w : World) (hx : Recs chE w u x) (hy : Recs chE w v y) (bx : ∀ c ∈ x, c.r ≤ 1114111) (by' : ∀ c ∈ y, c.r ≤ 1114111) (lx : x.length ≤ 4194304) (ly : y.length ≤ 4194304) :
    Calls Tryz.prog 62 #[u, v, .bool true] w fun e w' => e = .returned (.int .i64 (lexL (byF smallC) (rsC x) (rsC y))) ∧ Old w w' := by
  obtain ⟨a1, cap1, b1, off1, rfl, hc11, hc12, ha1, ht1⟩ := hx
  obtain ⟨a2, cap2, b2, off2, rfl, hc21, hc22, ha2, ht2⟩ := hy
  have Ha1 := Lib.hid ha1
  have Ha2 := Lib.hid ha2
  have Ht1 := Lib.hid ht1
  have Ht2 := Lib.hid ht2
  have Hend := Lib.hid (lexL_end (f := byF smallC) (x := rsC x) (y := rsC y) rfl)
  rw [rsC_len, rsC_len] at Hend
  clear ha1 ha2 ht1 ht2
  go_enter Tryz.func62, Tryz.ntmps62
  go_wp2_with fail
  go_loopw [7] (fun j wr => ∃ k : Nat, k ≤ x.length ∧ k ≤ y.length ∧ j = .int .i64 k ∧ lexL (byF smallC) ((rsC x).drop k) ((rsC y).drop k) = lexL (byF smallC) (rsC x) (rsC y) ∧ Old w wr) (fun j _ => x.length - (intOf j).toNat)
  case atStart => exact ⟨0, Nat.zero_le _, Nat.zero_le _, rfl, rfl, Old.refl _⟩
  case round =>
    obtain ⟨k, hka, hkb, rfl, hat, ho⟩ := hrel
    have Hat := Lib.hid hat
    clear hat
    by_cases h1 : k < x.length
    · have h1' : decide ((k : Int) < x.length) = true := by simp; omega
      have hi1 : (k : Int) < x.length := by omega
      by_cases h2 : k < y.length
      · have h2' : decide ((k : Int) < y.length) = true := by simp; omega
        have hi2 : (k : Int) < y.length := by omega
        obtain rfl := Ha1.out (by omega)
        obtain rfl := Ha2.out (by omega)
        obtain ⟨p, hp⟩ : ∃ p, x[k]? = some p := ⟨_, List.getElem?_eq_getElem h1⟩
        obtain ⟨q, hq⟩ : ∃ q, y[k]? = some q := ⟨_, List.getElem?_eq_getElem h2⟩
        have hpb := bx p (List.mem_of_getElem? hp)
        have hqb := by' q (List.mem_of_getElem? hq)
        have K1 := Recs.chr Ht1.out hp
        have K2 := Recs.chr Ht2.out hq
        have k1 := fun V (o : Old wr V) => (K1 V (ho.trans o)).1
        have k2 := fun V (o : Old wr V) => (K2 V (ho.trans o)).1
        have hsp : (smallC p.r = smallC q.r ∧ lexL (byF smallC) ((rsC x).drop k) ((rsC y).drop k) = lexL (byF smallC) ((rsC x).drop (k + 1)) ((rsC y).drop (k + 1))) ∨ (¬ smallC p.r = smallC q.r ∧ lexL (byF smallC) ((rsC x).drop k) ((rsC y).drop k) = Lib.compareInt (smallC p.r) (smallC q.r)) := by
          by_cases h : smallC p.r = smallC q.r
          · exact .inl ⟨h, lexL_skip (rsC_get hp) (rsC_get hq) (by show Lib.compareInt _ _ = 0; rw [h]; exact compareInt_zero _)⟩
          · exact .inr ⟨h, lexL_hit (rsC_get hp) (rsC_get hq) (compareInt_ne h)⟩
        have HS1 := Lib.hid (fun V => RSmall_any p.r V (by omega))
        have HS2 := Lib.hid (fun V => RSmall_any q.r V (by omega))
        have hg1 := smallC_bounds (r := (p.r : Int)) (by omega)
        have hg2 := smallC_bounds (r := (q.r : Int)) (by omega)
        clear hp hq K1 K2
        generalize p.r = pr at *
        generalize q.r = qr at *
        have wr1 : wrap64 (smallC (pr : Int)) = smallC (pr : Int) := wrap64_in hg1
        have wr2 : wrap64 (smallC (qr : Int)) = smallC (qr : Int) := wrap64_in hg2
        clear hg1 hg2
        generalize smallC (pr : Int) = fp at *
        generalize smallC (qr : Int) = fq at *
        rcases hsp with ⟨he, hs⟩ | ⟨he, hs⟩
        · have Hs := Lib.hid hs
          have hbn : (fp != fq) = false := by rw [bne_eq_false_iff_eq]; exact he
          clear hs he
          go_upto_region 4 with fail
          refine wp_region_old (Old.refl _) (by kernel_rfl) (by kernel_rfl) ?_
          repeat (go_big_quiet_step (fail))
          refine wpQuiet_nil ?_
          rintro ⟨wv, hv⟩
          dsimp only
          go_wp2_with fail
          refine (HS1.out _).mono ?_
          rintro e w8 ⟨rfl, rfl⟩
          go_wp2_with fail
          refine (HS2.out _).mono ?_
          rintro e w9 ⟨rfl, rfl⟩
          go_wp2_with fail
          go_roundw
          case rel => exact ⟨k + 1, by omega, by omega, by go_num, by rw [← Hs.out]; exact Hat.out, ho.trans hv⟩
          case measure => simp [intOf]; omega
        · have Hs := Lib.hid hs
          have hbn : (fp != fq) = true := by rw [bne_iff_ne]; exact he
          clear hs he
          go_upto_region 4 with fail
          refine wp_region_old (Old.refl _) (by kernel_rfl) (by kernel_rfl) ?_
          repeat (go_big_quiet_step (fail))
          refine wpQuiet_nil ?_
          rintro ⟨wv, hv⟩
          dsimp only
          go_wp2_with fail
          refine (HS1.out _).mono ?_
          rintro e w8 ⟨rfl, rfl⟩
          go_wp2_with fail
          refine (HS2.out _).mono ?_
          rintro e w9 ⟨rfl, rfl⟩
          go_wp2_with fail
          refine (sign_any _ _ _).mono ?_
          rintro e w7 ⟨rfl, rfl⟩
          go_wp2_with fail
          go_ret
          exact ⟨by rw [← Hat.out, Hs.out]; rfl, ho.trans hv⟩
      · have h2' : decide ((k : Int) < y.length) = false := by simp; omega
        have He : Hid (lexL (byF smallC) ((rsC x).drop k) ((rsC y).drop k) = Lib.compareInt x.length y.length) := by
          have h := Hend.out
          rw [show min x.length y.length = k from by omega] at h
          exact h
        go_wp2_with (go_at_call 61; refine (sign_any _ _ _).mono ?_; rintro e w1 ⟨rfl, rfl⟩)
        go_ret
        exact ⟨by rw [← Hat.out, He.out]; rfl, ho⟩
    · have h1' : decide ((k : Int) < x.length) = false := by simp; omega
      have He : Hid (lexL (byF smallC) ((rsC x).drop k) ((rsC y).drop k) = Lib.compareInt x.length y.length) := by
        have h := Hend.out
        rw [show min x.length y.length = k from by omega] at h
        exact h
      go_wp2_with (go_at_call 61; refine (sign_any _ _ _).mono ?_; rintro e w1 ⟨rfl, rfl⟩)
      go_ret
      exact ⟨by rw [← Hat.out, He.out]; rfl, ho⟩
set_option maxRecDepth 100000 in
set_option maxHeartbeats 3200000 in
theorem codes_same (u v : Value) (x y : List Chr) (w : World) (hx : Recs chE w u x) (hy : Recs chE w v y) (bx : ∀ c ∈ x, c.r ≤ 1114111) (by' : ∀ c ∈ y, c.r ≤ 1114111) (lx : x.length ≤ 4194304) (ly : y.length ≤ 4194304) :
    Calls Tryz.prog 62 #[u, v, .bool false] w fun e w' => e = .returned (.int .i64 (lexL (byF id) (rsC x) (rsC y))) ∧ Old w w' := by
  obtain ⟨a1, cap1, b1, off1, rfl, hc11, hc12, ha1, ht1⟩ := hx
  obtain ⟨a2, cap2, b2, off2, rfl, hc21, hc22, ha2, ht2⟩ := hy
  have Ha1 := Lib.hid ha1
  have Ha2 := Lib.hid ha2
  have Ht1 := Lib.hid ht1
  have Ht2 := Lib.hid ht2
  have Hend := Lib.hid (lexL_end (f := byF id) (x := rsC x) (y := rsC y) rfl)
  rw [rsC_len, rsC_len] at Hend
  clear ha1 ha2 ht1 ht2
  go_enter Tryz.func62, Tryz.ntmps62
  go_wp2_with fail
  go_loopw [7] (fun j wr => ∃ k : Nat, k ≤ x.length ∧ k ≤ y.length ∧ j = .int .i64 k ∧ lexL (byF id) ((rsC x).drop k) ((rsC y).drop k) = lexL (byF id) (rsC x) (rsC y) ∧ Old w wr) (fun j _ => x.length - (intOf j).toNat)
  case atStart => exact ⟨0, Nat.zero_le _, Nat.zero_le _, rfl, rfl, Old.refl _⟩
  case round =>
    obtain ⟨k, hka, hkb, rfl, hat, ho⟩ := hrel
    have Hat := Lib.hid hat
    clear hat
    by_cases h1 : k < x.length
    · have h1' : decide ((k : Int) < x.length) = true := by simp; omega
      have hi1 : (k : Int) < x.length := by omega
      by_cases h2 : k < y.length
      · have h2' : decide ((k : Int) < y.length) = true := by simp; omega
        have hi2 : (k : Int) < y.length := by omega
        obtain rfl := Ha1.out (by omega)
        obtain rfl := Ha2.out (by omega)
        obtain ⟨p, hp⟩ : ∃ p, x[k]? = some p := ⟨_, List.getElem?_eq_getElem h1⟩
        obtain ⟨q, hq⟩ : ∃ q, y[k]? = some q := ⟨_, List.getElem?_eq_getElem h2⟩
        have hpb := bx p (List.mem_of_getElem? hp)
        have hqb := by' q (List.mem_of_getElem? hq)
        have K1 := Recs.chr Ht1.out hp
        have K2 := Recs.chr Ht2.out hq
        have k1 := fun V (o : Old wr V) => (K1 V (ho.trans o)).1
        have k2 := fun V (o : Old wr V) => (K2 V (ho.trans o)).1
        have hsp : (id (p.r : Int) = id (q.r : Int) ∧ lexL (byF id) ((rsC x).drop k) ((rsC y).drop k) = lexL (byF id) ((rsC x).drop (k + 1)) ((rsC y).drop (k + 1))) ∨ (¬ id (p.r : Int) = id (q.r : Int) ∧ lexL (byF id) ((rsC x).drop k) ((rsC y).drop k) = Lib.compareInt (id (p.r : Int)) (id (q.r : Int))) := by
          by_cases h : id (p.r : Int) = id (q.r : Int)
          · exact .inl ⟨h, lexL_skip (rsC_get hp) (rsC_get hq) (by show Lib.compareInt _ _ = 0; rw [h]; exact compareInt_zero _)⟩
          · exact .inr ⟨h, lexL_hit (rsC_get hp) (rsC_get hq) (compareInt_ne h)⟩
        have hg1 : -2147483648 ≤ id (p.r : Int) ∧ id (p.r : Int) ≤ 2147483647 := by show -2147483648 ≤ (p.r : Int) ∧ (p.r : Int) ≤ 2147483647; omega
        have hg2 : -2147483648 ≤ id (q.r : Int) ∧ id (q.r : Int) ≤ 2147483647 := by show -2147483648 ≤ (q.r : Int) ∧ (q.r : Int) ≤ 2147483647; omega
        clear hp hq K1 K2
        generalize p.r = pr at *
        generalize q.r = qr at *
        have wr1 : wrap64 (id (pr : Int)) = id (pr : Int) := wrap64_in hg1
        have wr2 : wrap64 (id (qr : Int)) = id (qr : Int) := wrap64_in hg2
        clear hg1 hg2
        change ∀ V, Old wr V → V.cell? ⟨b1, off1 + k * 4, none⟩ = some (.int .i32 (id (pr : Int))) at k1
        change ∀ V, Old wr V → V.cell? ⟨b2, off2 + k * 4, none⟩ = some (.int .i32 (id (qr : Int))) at k2
        generalize id (pr : Int) = fp at *
        generalize id (qr : Int) = fq at *
        rcases hsp with ⟨he, hs⟩ | ⟨he, hs⟩
        · have Hs := Lib.hid hs
          have hbn : (fp != fq) = false := by rw [bne_eq_false_iff_eq]; exact he
          clear hs he
          go_upto_region 4 with fail
          refine wp_region_old (Old.refl _) (by kernel_rfl) (by kernel_rfl) ?_
          repeat (go_big_quiet_step (fail))
          refine wpQuiet_nil ?_
          rintro ⟨wv, hv⟩
          dsimp only
          go_wp2_with fail
          go_roundw
          case rel => exact ⟨k + 1, by omega, by omega, by go_num, by rw [← Hs.out]; exact Hat.out, ho.trans hv⟩
          case measure => simp [intOf]; omega
        · have Hs := Lib.hid hs
          have hbn : (fp != fq) = true := by rw [bne_iff_ne]; exact he
          clear hs he
          go_upto_region 4 with fail
          refine wp_region_old (Old.refl _) (by kernel_rfl) (by kernel_rfl) ?_
          repeat (go_big_quiet_step (fail))
          refine wpQuiet_nil ?_
          rintro ⟨wv, hv⟩
          dsimp only
          go_wp2_with fail
          refine (sign_any _ _ _).mono ?_
          rintro e w7 ⟨rfl, rfl⟩
          go_wp2_with fail
          go_ret
          exact ⟨by rw [← Hat.out, Hs.out]; rfl, ho.trans hv⟩
      · have h2' : decide ((k : Int) < y.length) = false := by simp; omega
        have He : Hid (lexL (byF id) ((rsC x).drop k) ((rsC y).drop k) = Lib.compareInt x.length y.length) := by
          have h := Hend.out
          rw [show min x.length y.length = k from by omega] at h
          exact h
        go_wp2_with (go_at_call 61; refine (sign_any _ _ _).mono ?_; rintro e w1 ⟨rfl, rfl⟩)
        go_ret
        exact ⟨by rw [← Hat.out, He.out]; rfl, ho⟩
    · have h1' : decide ((k : Int) < x.length) = false := by simp; omega
      have He : Hid (lexL (byF id) ((rsC x).drop k) ((rsC y).drop k) = Lib.compareInt x.length y.length) := by
        have h := Hend.out
        rw [show min x.length y.length = k from by omega] at h
        exact h
      go_wp2_with (go_at_call 61; refine (sign_any _ _ _).mono ?_; rintro e w1 ⟨rfl, rfl⟩)
      go_ret
      exact ⟨by rw [← Hat.out, He.out]; rfl, ho⟩
end Go.Proofs.YtohngjkedhpikaaGreatDoor
/-
  TEXT, I: bounds of elements; the document's Compare; headings, the program's and the document's.
-/


namespace Go.Proofs.YtohngjkedhpikaaGreatDoor
open Go.RowKit
attribute [local go_sem] Old.refl Old.alloc Old.drew Old.setCell OldW.old

theorem elsGo_all {s : ByteArray} {Q : El → Prop} (h : ∀ p, p < s.size → ∀ x ∈ (elStep s p).1, Q x) : ∀ (d p : Nat) (t : List El), s.size - p = d → (∀ x ∈ t, Q x) → ∀ x ∈ elsGo s p t, Q x := by
  intro d
  induction d using Nat.strongRecOn with
  | _ d ih =>
    intro p t hd ht
    by_cases hp : p < s.size
    · have h1 := elStep_lt s p
      rw [elsGo_on hp]
      refine ih (s.size - (elStep s p).2) (by omega) _ _ rfl fun x hx => ?_
      rcases List.mem_append.1 hx with hx | hx
      · exact ht x hx
      · exact h p hp x hx
    · rw [elsGo_end hp]; exact ht
theorem charsAt_r {l : List UInt8} {p : Nat} {x : Chr} (h : x ∈ charsAt l p) : x.r ≤ 1114111 := by
  obtain ⟨i, hi, rfl⟩ := List.getElem_of_mem h
  have := (charsAt_get i p _ (List.getElem?_eq_getElem hi)).2.2.1
  rw [this]
  exact chR_le _ _
theorem trimN_size (s : ByteArray) (p q : Nat) : (trimN s p q).size ≤ s.size := by
  rw [trimN_eq, strB_size]
  unfold trimL Lib.trimLeftB
  have h1 := (List.dropWhile_suffix (fun x : UInt8 => x == 48) (l := (s.extract p q).data.toList)).length_le
  rw [str_len] at h1
  have h2 := extract_size (s := s) (p := p) (i := q)
  omega
theorem elsS_bound (s : ByteArray) : ∀ x ∈ elsS s, x.r ≤ 1114111 ∧ x.d.size ≤ s.size := by
  refine elsGo_all (fun p hp x hx => ?_) _ 0 [] rfl (by simp)
  unfold elStep at hx
  split at hx
  · obtain rfl : x = ⟨1, 0, _⟩ := by simpa using hx
    exact ⟨Nat.zero_le _, trimN_size s _ _⟩
  · dsimp only at hx
    split at hx
    · cases hx
    · unfold baseEls at hx
      obtain ⟨c, hc, rfl⟩ := List.mem_map.1 hx
      exact ⟨charsAt_r hc, Nat.zero_le _⟩
theorem orL_ne {x : Int} (h : ¬ x = 0) (r : List Int) : orL (x :: r) = x := if_neg h
theorem orL_zero (r : List Int) : orL (0 :: r) = orL r := if_pos rfl
theorem orL_one (x : Int) : orL [x] = x := by
  by_cases h : x = 0
  · rw [h, orL_zero]; rfl
  · exact orL_ne h _
set_option maxRecDepth 100000 in
set_option maxHeartbeats 6400000 in
theorem RCompare_any (a b : ByteArray) (w : World) (ha : a.size ≤ 4194304) (hb : b.size ≤ 4194304) :
    Calls Tryz.prog 21 #[.string a, .string b] w fun e w' => e = .returned (.int .i64 (compareT a b)) ∧ Old w w' := by
  have HE : Hid (compareT a b = orL [lexL cmpEl (elsS a) (elsS b), lexL (byF smallC) (rsC (charsAt a.data.toList 0)) (rsC (charsAt b.data.toList 0)), lexL (byF id) (rsC (charsAt a.data.toList 0)) (rsC (charsAt b.data.toList 0)), Lib.compareBytes a.data.toList b.data.toList]) := (compareT_eq a b).trans (allC_or a b).symm
  have HA := Lib.hid (RElements_any a w ha)
  have HB := Lib.hid (fun V => RElements_any b V hb)
  have Hbx := Lib.hid (elsS_bound a)
  have Hby := Lib.hid (elsS_bound b)
  have HCa := Lib.hid (fun V => Chars_any a V (by omega))
  have HCb := Lib.hid (fun V => Chars_any b V (by omega))
  have la := charsAt_len (l := a.data.toList) (a.data.toList.length - 0) 0 rfl
  have lb := charsAt_len (l := b.data.toList) (b.data.toList.length - 0) 0 rfl
  rw [str_len] at la lb
  have HS := Lib.hid (fun u v V hx hy => codes_small u v (charsAt a.data.toList 0) (charsAt b.data.toList 0) V hx hy (fun c h => charsAt_r h) (fun c h => charsAt_r h) (by omega) (by omega))
  have HI := Lib.hid (fun u v V hx hy => codes_same u v (charsAt a.data.toList 0) (charsAt b.data.toList 0) V hx hy (fun c h => charsAt_r h) (fun c h => charsAt_r h) (by omega) (by omega))
  have HY := Lib.hid (fun V => bytes_any a b V ha)
  clear la lb
  generalize elsS a = x at *
  generalize elsS b = y at *
  generalize charsAt a.data.toList 0 = ca at *
  generalize charsAt b.data.toList 0 = cb at *
  generalize lexL (byF smallC) (rsC ca) (rsC cb) = c2 at *
  generalize lexL (byF id) (rsC ca) (rsC cb) = c3 at *
  generalize Lib.compareBytes a.data.toList b.data.toList = c4 at *
  go_enter Tryz.func21, Tryz.ntmps21
  go_wp2_with fail
  refine HA.out.mono ?_
  rintro e w1 ⟨⟨v1, rfl, hv1⟩, ho1⟩
  go_wp2_with fail
  refine (HB.out _).mono ?_
  rintro e w2 ⟨⟨v2, rfl, hv2⟩, ho2⟩
  obtain ⟨a1, cap1, b1, off1, rfl, hc11, hc12, ha1, ht1⟩ := (hv1.recs.old ho2)
  obtain ⟨a2, cap2, b2, off2, rfl, hc21, hc22, ha2, ht2⟩ := hv2.recs
  have Ha1 := Lib.hid ha1
  have Ha2 := Lib.hid ha2
  have Ht1 := Lib.hid ht1
  have Ht2 := Lib.hid ht2
  have Hend := Lib.hid (lexL_end (f := cmpEl) (x := x) (y := y) rfl)
  clear ha1 ha2 ht1 ht2 hv1 hv2
  go_wp2_with fail
  go_loopw [7] (fun j wr => ∃ k : Nat, k ≤ x.length ∧ k ≤ y.length ∧ j = .int .i64 k ∧ lexL cmpEl (x.drop k) (y.drop k) = lexL cmpEl x y ∧ Old w2 wr) (fun j _ => x.length - (intOf j).toNat)
  case atStart => exact ⟨0, Nat.zero_le _, Nat.zero_le _, rfl, rfl, Old.refl _⟩
  case round =>
    obtain ⟨k, hkx, hky, rfl, hat, ho⟩ := hrel
    have Hat := Lib.hid hat
    clear hat
    by_cases hlt : k < x.length ∧ k < y.length
    · obtain ⟨hx1, hy1⟩ := hlt
      have d1 : decide ((k : Int) < x.length) = true := by simp; omega
      have d2 : decide ((k : Int) < y.length) = true := by simp; omega
      have hkx' : (k : Int) < x.length := by omega
      have hky' : (k : Int) < y.length := by omega
      obtain rfl := Ha1.out (by omega)
      obtain rfl := Ha2.out (by omega)
      obtain ⟨p, hp⟩ : ∃ p, x[k]? = some p := ⟨_, List.getElem?_eq_getElem hx1⟩
      obtain ⟨q, hq⟩ : ∃ q, y[k]? = some q := ⟨_, List.getElem?_eq_getElem hy1⟩
      have hpb := Hbx.out p (List.mem_of_getElem? hp)
      have hqb := Hby.out q (List.mem_of_getElem? hq)
      have K1 := Recs.three Ht1.out hp
      have K2 := Recs.three Ht2.out hq
      have k1 := fun V (o : Old wr V) => (K1 V (ho.trans o)).1
      have k2 := fun V (o : Old wr V) => (K1 V (ho.trans o)).2.1
      have k3 := fun V (o : Old wr V) => (K1 V (ho.trans o)).2.2
      have j1 := fun V (o : Old wr V) => (K2 V (ho.trans o)).1
      have j2 := fun V (o : Old wr V) => (K2 V (ho.trans o)).2.1
      have j3 := fun V (o : Old wr V) => (K2 V (ho.trans o)).2.2
      have Hc := Lib.hid (fun (W : OldW wr) => first_any p q W.w' (by omega) (by omega) (by omega))
      unfold elV at Hc
      have hsplit : (cmpEl p q = 0 ∧ lexL cmpEl (x.drop k) (y.drop k) = lexL cmpEl (x.drop (k + 1)) (y.drop (k + 1))) ∨ (¬ cmpEl p q = 0 ∧ lexL cmpEl (x.drop k) (y.drop k) = cmpEl p q) := by
        by_cases h0 : cmpEl p q = 0
        · exact .inl ⟨h0, lexL_skip hp hq h0⟩
        · exact .inr ⟨h0, lexL_hit hp hq h0⟩
      clear hp hq K1 K2 hpb hqb
      generalize cmpEl p q = c at *
      go_upto_region 5 with fail
      refine wp_region_old (Old.refl _) (by kernel_rfl) (by kernel_rfl) ?_
      repeat (go_big_quiet_step (exact Calls.in_old (Hc.out _)))
      refine wpQuiet_nil ?_
      rintro ⟨wq, hq⟩
      dsimp only
      rcases hsplit with ⟨rfl, hs⟩ | ⟨hc, hs⟩
      · have Hs := Lib.hid hs
        clear hs
        go_wp2_with fail
        go_roundw
        case rel => exact ⟨k + 1, by omega, by omega, by go_num, by rw [← Hs.out]; exact Hat.out, ho.trans hq⟩
        case measure => simp [intOf]; omega
      · have Hs := Lib.hid (show compareT a b = c from by rw [HE.out, ← Hat.out, hs, orL_ne hc])
        have hcb : (c != 0) = true := by rw [bne_iff_ne]; exact hc
        clear hs hc
        go_wp2_with fail
        go_ret
        exact ⟨by rw [Hs.out]; rfl, ((ho1.trans ho2).trans ho).trans hq⟩
    · have He : lexL cmpEl x y = Lib.compareInt x.length y.length := by
        have h := Hend.out
        rw [show min x.length y.length = k from by omega] at h
        rw [← Hat.out]; exact h
      have hoo : Old w wr := (ho1.trans ho2).trans ho
      have HG := Lib.hid (fun V => sign_any x.length y.length V)
      rw [He] at HE
      clear He
      generalize Lib.compareInt (x.length : Int) y.length = c1 at *
      have hd : (decide (k < x.length) = true ∧ decide (k < y.length) = false) ∨ decide (k < x.length) = false := by
        by_cases hlx : k < x.length
        · exact .inl ⟨by simp; omega, by simp; omega⟩
        · exact .inr (by simp; omega)
      clear hlt Hend Hat
      rcases hd with ⟨d1, d2⟩ | d1
      all_goals
        by_cases h1 : c1 = 0
        · subst h1
          rw [orL_zero] at HE
          go_wp2_with fail
          refine (HG.out _).mono ?_
          rintro e w3 ⟨rfl, rfl⟩
          go_wp2_with fail
          refine (HCa.out _).mono ?_
          rintro e w3 ⟨⟨v3, rfl, hv3⟩, ho3⟩
          go_wp2_with fail
          refine (HCb.out _).mono ?_
          rintro e w4 ⟨⟨v4, rfl, hv4⟩, ho4⟩
          go_wp2_with fail
          refine (HS.out _ _ _ (hv3.recs.old ho4) hv4.recs).mono ?_
          rintro e w5 ⟨rfl, ho5⟩
          have ho5' := (hoo.trans ho3).trans (ho4.trans ho5)
          clear hoo ho3 ho4 ho5 hv3 hv4
          by_cases h2 : c2 = 0
          · subst h2
            rw [orL_zero] at HE
            go_wp2_with fail
            refine (HCa.out _).mono ?_
            rintro e w6 ⟨⟨v6, rfl, hv6⟩, ho6⟩
            go_wp2_with fail
            refine (HCb.out _).mono ?_
            rintro e w7 ⟨⟨v7, rfl, hv7⟩, ho7⟩
            go_wp2_with fail
            refine (HI.out _ _ _ (hv6.recs.old ho7) hv7.recs).mono ?_
            rintro e w8 ⟨rfl, ho8⟩
            have ho8' := (ho5'.trans ho6).trans (ho7.trans ho8)
            clear ho5' ho6 ho7 ho8 hv6 hv7
            by_cases h3 : c3 = 0
            · subst h3
              rw [orL_zero, orL_one] at HE
              go_wp2_with fail
              refine (HY.out _).mono ?_
              rintro e w9 ⟨rfl, ho9⟩
              go_wp2_with fail
              go_ret
              exact ⟨by rw [HE.out]; rfl, ho8'.trans ho9⟩
            · have hb : (c3 != 0) = true := by rw [bne_iff_ne]; exact h3
              rw [orL_ne h3] at HE
              clear h3
              go_wp2_with fail
              go_ret
              exact ⟨by rw [HE.out]; rfl, ho8'⟩
          · have hb : (c2 != 0) = true := by rw [bne_iff_ne]; exact h2
            rw [orL_ne h2] at HE
            clear h2
            go_wp2_with fail
            go_ret
            exact ⟨by rw [HE.out]; rfl, ho5'⟩
        · have hb : (c1 != 0) = true := by rw [bne_iff_ne]; exact h1
          rw [orL_ne h1] at HE
          clear h1
          go_wp2_with fail
          refine (HG.out _).mono ?_
          rintro e w3 ⟨rfl, rfl⟩
          go_wp2_with fail
          go_ret
          exact ⟨by rw [HE.out]; rfl, hoo⟩
/-- under which heading a text of these elements stands -/
def groupE : List El → ByteArray
  | [] => ⟨#[42]⟩
  | e :: _ => if e.k = 1 then ⟨#[48]⟩ else if e.k = 0 then ⟨#[42]⟩ else if 97 ≤ e.r ∧ e.r ≤ 122 then Utf8.encode ((e.r : Int) - 32) else Utf8.encode e.r
set_option maxRecDepth 100000 in
set_option maxHeartbeats 3200000 in
theorem Group_any (s : ByteArray) (w : World) (hT : Tabs w) (hs : s.size ≤ 4194304) :
    Calls Tryz.prog 57 #[.string s] w fun e w' => e = .returned (.string (groupE (elsS s))) ∧ Old w w' := by
  have HE := Lib.hid (elements_any s w hT hs)
  have Hb := Lib.hid (elsS_bound s)
  generalize elsS s = x at *
  go_enter Tryz.func57, Tryz.ntmps57
  go_wp2_with fail
  refine HE.out.mono ?_
  rintro e w1 ⟨⟨v1, rfl, hv1⟩, ho1⟩
  obtain ⟨a1, cap1, b1, off1, rfl, hc11, hc12, ha1, ht1⟩ := hv1.recs
  cases x with
  | nil =>
    simp only [List.length_nil] at *
    clear ha1 ht1 hv1
    go_wp2_with fail
    go_ret
    exact ⟨rfl, ho1⟩
  | cons c t =>
    obtain rfl := ha1 (by simp)
    have K1 := Recs.three ht1 (show (c :: t)[0]? = some c from rfl)
    simp only [Nat.zero_mul, Nat.add_zero] at K1
    have k1 := fun V (o : Old w1 V) => (K1 V o).1
    have k2 := fun V (o : Old w1 V) => (K1 V o).2.1
    have k3 := fun V (o : Old w1 V) => (K1 V o).2.2
    have hb := (Hb.out c (by simp)).1
    have hn : (0 : Int) < (c :: t).length := by rw [List.length_cons]; omega
    have hn' : (((c :: t).length : Int) == 0) = false := by rw [beq_eq_false_iff_ne]; omega
    have Hg : Hid (groupE (c :: t) = if c.k = 1 then ⟨#[48]⟩ else if c.k = 0 then ⟨#[42]⟩ else if 97 ≤ c.r ∧ c.r ≤ 122 then Utf8.encode ((c.r : Int) - 32) else Utf8.encode c.r) := rfl
    generalize (c :: t).length = n at *
    clear ha1 ht1 hv1 K1 Hb HE
    obtain ⟨ck, cr, cd⟩ := c
    dsimp only at *
    by_cases h1 : ck = 1
    · subst h1
      go_wp2_with fail
      go_ret
      exact ⟨by rw [Hg.out]; rfl, ho1.alloc _⟩
    · have h1b : ((ck : Int) == 1) = false := by rw [beq_eq_false_iff_ne]; omega
      rw [if_neg h1] at Hg
      by_cases h0 : ck = 0
      · subst h0
        go_wp2_with fail
        go_ret
        exact ⟨by rw [Hg.out]; rfl, ho1.alloc _⟩
      · have h0b : ((ck : Int) == 0) = false := by rw [beq_eq_false_iff_ne]; omega
        rw [if_neg h0] at Hg
        clear h1 h0
        by_cases ha : 97 ≤ cr
        · have ha' : decide ((97 : Int) ≤ cr) = true := by simp; omega
          by_cases hz : cr ≤ 122
          · have hz' : decide ((cr : Int) ≤ 122) = true := by simp; omega
            rw [if_pos ⟨ha, hz⟩] at Hg
            go_wp2_with fail
            go_ret
            exact ⟨by rw [Hg.out]; rfl, ho1.alloc _⟩
          · have hz' : decide ((cr : Int) ≤ 122) = false := by simp; omega
            rw [if_neg (fun h => hz h.2)] at Hg
            go_wp2_with fail
            go_ret
            exact ⟨by rw [Hg.out]; rfl, ho1.alloc _⟩
        · have ha' : decide ((97 : Int) ≤ cr) = false := by simp; omega
          rw [if_neg (fun h => ha h.1)] at Hg
          go_wp2_with fail
          go_ret
          exact ⟨by rw [Hg.out]; rfl, ho1.alloc _⟩
set_option maxRecDepth 100000 in
set_option maxHeartbeats 3200000 in
theorem RGroup_any (s : ByteArray) (w : World) (hs : s.size ≤ 4194304) :
    Calls Tryz.prog 58 #[.string s] w fun e w' => e = .returned (.string (groupE (elsS s))) ∧ Old w w' := by
  have HE := Lib.hid (RElements_any s w hs)
  have Hb := Lib.hid (elsS_bound s)
  generalize elsS s = x at *
  go_enter Tryz.func58, Tryz.ntmps58
  go_wp2_with fail
  refine HE.out.mono ?_
  rintro e w1 ⟨⟨v1, rfl, hv1⟩, ho1⟩
  obtain ⟨a1, cap1, b1, off1, rfl, hc11, hc12, ha1, ht1⟩ := hv1.recs
  cases x with
  | nil =>
    simp only [List.length_nil] at *
    clear ha1 ht1 hv1
    go_wp2_with fail
    go_ret
    exact ⟨rfl, ho1⟩
  | cons c t =>
    obtain rfl := ha1 (by simp)
    have K1 := Recs.three ht1 (show (c :: t)[0]? = some c from rfl)
    simp only [Nat.zero_mul, Nat.add_zero] at K1
    have k1 := fun V (o : Old w1 V) => (K1 V o).1
    have k2 := fun V (o : Old w1 V) => (K1 V o).2.1
    have hb := (Hb.out c (by simp)).1
    have hn : (0 : Int) < (c :: t).length := by rw [List.length_cons]; omega
    have hn' : (((c :: t).length : Int) == 0) = false := by rw [beq_eq_false_iff_ne]; omega
    have Hg : Hid (groupE (c :: t) = if c.k = 1 then ⟨#[48]⟩ else if c.k = 0 then ⟨#[42]⟩ else if 97 ≤ c.r ∧ c.r ≤ 122 then Utf8.encode ((c.r : Int) - 32) else Utf8.encode c.r) := rfl
    generalize (c :: t).length = n at *
    clear ha1 ht1 hv1 K1 Hb HE
    obtain ⟨ck, cr, cd⟩ := c
    dsimp only at *
    by_cases h0 : ck = 0
    · subst h0
      go_wp2_with fail
      go_ret
      exact ⟨by rw [Hg.out]; rfl, ho1⟩
    · have h0b : ((ck : Int) == 0) = false := by rw [beq_eq_false_iff_ne]; omega
      by_cases h1 : ck = 1
      · subst h1
        go_wp2_with fail
        go_ret
        exact ⟨by rw [Hg.out]; rfl, ho1⟩
      · have h1b : ((ck : Int) == 1) = false := by rw [beq_eq_false_iff_ne]; omega
        rw [if_neg h1, if_neg h0] at Hg
        clear h1 h0
        have HIn := Lib.hid (fun V => in_any cr 97 122 V)
        by_cases hz : 97 ≤ cr ∧ cr ≤ 122
        · rw [if_pos hz] at Hg
          rw [(inR_iff (r := (cr : Int)) (lo := 97) (hi := 122)).2 (by omega)] at HIn
          go_wp2_with (go_at_call 96; refine (HIn.out _).mono ?_; rintro e w8 ⟨rfl, rfl⟩)
          go_ret
          exact ⟨by rw [Hg.out]; rfl, ho1⟩
        · rw [if_neg hz] at Hg
          have hno : inR (cr : Int) 97 122 = false := by
            cases h : inR (cr : Int) 97 122
            · rfl
            · exact absurd (inR_iff.1 h) (by omega)
          rw [hno] at HIn
          clear hz hno
          go_wp2_with (go_at_call 96; refine (HIn.out _).mono ?_; rintro e w8 ⟨rfl, rfl⟩)
          go_ret
          exact ⟨by rw [Hg.out]; rfl, ho1⟩
end Go.Proofs.YtohngjkedhpikaaGreatDoor
