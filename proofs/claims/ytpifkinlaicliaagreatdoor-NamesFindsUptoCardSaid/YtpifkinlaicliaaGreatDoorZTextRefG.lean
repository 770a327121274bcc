/-
  TEXT, THE DOCUMENT's, E: sign, bytes, codes, two elements.
-/
import Derived.Test.YtpifkinlaicliaaGreatDoorZTextOrder
import Derived.Test.YtpifkinlaicliaaGreatDoorZShelf02
namespace Go.Proofs.YtpifkinlaicliaaGreatDoor
open Go.RowKit
attribute [local go_sem] Old.refl Old.alloc Old.drew Old.setCell OldW.old

theorem sign_any (x y : Int) (w : World) : Calls Tryz.prog 55 #[.int .i64 x, .int .i64 y] w fun e w' => e = .returned (.int .i64 (Lib.compareInt x y)) ∧ w' = w := by
  go_enter Tryz.func55, Tryz.ntmps55
  go_wp2
  all_goals
    go_ret
    refine ⟨?_, rfl⟩
    unfold Lib.compareInt
    first
      | (rw [if_pos (by omega)]; rfl)
      | (rw [if_neg (by omega), if_pos (by omega)]; rfl)
      | (rw [if_neg (by omega), if_neg (by omega)]; rfl)
theorem w64 {x : Int} (h0 : 0 ≤ x) (h1 : x ≤ 9223372036854775807) : wrap64 x = x := by
  unfold wrap64
  omega
theorem compareInt_ne {x y : Int} (h : ¬ x = y) : ¬ Lib.compareInt x y = 0 := fun k => h (compareInt_eq k)
set_option maxRecDepth 100000 in
set_option maxHeartbeats 3200000 in
theorem bytes_any (a b : ByteArray) (w : World) (ha : a.size ≤ 4194304) :
    Calls Tryz.prog 58 #[.string a, .string b] w fun e w' => e = .returned (.int .i64 (Lib.compareBytes a.data.toList b.data.toList)) ∧ Old w w' := by
  have Hb := Lib.hid (bytes_lex a.data.toList b.data.toList)
  have Hend := Lib.hid (lexL_end (f := fun x y : UInt8 => Lib.compareInt x.toNat y.toNat) (x := a.data.toList) (y := b.data.toList) rfl)
  rw [str_len, str_len] at Hend
  go_enter Tryz.func58, Tryz.ntmps58
  go_wp2_with fail
  go_loopw [5] (fun j wr => ∃ k : Nat, k ≤ a.size ∧ k ≤ b.size ∧ j = .int .i64 k ∧ lexL (fun x y : UInt8 => Lib.compareInt x.toNat y.toNat) (a.data.toList.drop k) (b.data.toList.drop k) = Lib.compareBytes a.data.toList b.data.toList ∧ Old w wr) (fun j _ => a.size - (intOf j).toNat)
  case atStart => exact ⟨0, Nat.zero_le _, Nat.zero_le _, rfl, Hb.out.symm, Old.refl _⟩
  case round =>
    obtain ⟨k, hka, hkb, rfl, hat, ho⟩ := hrel
    have Hat := Lib.hid hat
    clear hat
    by_cases h1 : k < a.size
    · have h1' : decide ((k : Int) < a.size) = true := by simp; omega
      by_cases h2 : k < b.size
      · have h2' : decide ((k : Int) < b.size) = true := by simp; omega
        have hi1 : (k : Int) < a.size := by omega
        have hi2 : (k : Int) < b.size := by omega
        have e1 := byte_get a h1
        have e2 := byte_get b h2
        have g1 : a.data.toList[k]? = some (a[k]'h1) := by rw [e1, List.getD_eq_getElem?_getD, List.getElem?_eq_getElem (by rw [str_len]; exact h1)]; rfl
        have g2 : b.data.toList[k]? = some (b[k]'h2) := by rw [e2, List.getD_eq_getElem?_getD, List.getElem?_eq_getElem (by rw [str_len]; exact h2)]; rfl
        have hsp : ((a[k]'h1).toNat = (b[k]'h2).toNat ∧ lexL (fun x y : UInt8 => Lib.compareInt x.toNat y.toNat) (a.data.toList.drop k) (b.data.toList.drop k) = lexL (fun x y : UInt8 => Lib.compareInt x.toNat y.toNat) (a.data.toList.drop (k + 1)) (b.data.toList.drop (k + 1))) ∨ (¬ (a[k]'h1).toNat = (b[k]'h2).toNat ∧ lexL (fun x y : UInt8 => Lib.compareInt x.toNat y.toNat) (a.data.toList.drop k) (b.data.toList.drop k) = Lib.compareInt (a[k]'h1).toNat (b[k]'h2).toNat) := by
          by_cases h : (a[k]'h1).toNat = (b[k]'h2).toNat
          · exact .inl ⟨h, lexL_skip g1 g2 (by show Lib.compareInt _ _ = 0; rw [h]; exact compareInt_zero _)⟩
          · exact .inr ⟨h, lexL_hit g1 g2 (compareInt_ne (by omega))⟩
        clear e1 e2 g1 g2
        have wa : wrap64 ((a[k]'h1).toNat : Int) = (a[k]'h1).toNat := w64 (by omega) (by have := (a[k]'h1).toNat_lt; omega)
        have wb : wrap64 ((b[k]'h2).toNat : Int) = (b[k]'h2).toNat := w64 (by omega) (by have := (b[k]'h2).toNat_lt; omega)
        rcases hsp with ⟨he, hs⟩ | ⟨he, hs⟩
        · have Hs := Lib.hid hs
          have hbn : (((a[k]'h1).toNat : Int) != ((b[k]'h2).toNat : Int)) = false := by rw [bne_eq_false_iff_eq]; omega
          clear hs he
          go_upto_region 4 with fail
          refine wp_region_old (Old.refl _) (by kernel_rfl) (by kernel_rfl) ?_
          repeat (go_big_quiet_step (fail))
          refine wpQuiet_nil ?_
          rintro ⟨wv, hv⟩
          dsimp only
          go_wp2_with fail
          go_roundw
          case rel => exact ⟨k + 1, by omega, by omega, by go_num, by rw [← Hs.out]; exact Hat.out, ho.trans hv⟩
          case measure => simp [intOf]; omega
        · have Hs := Lib.hid hs
          have hbn : (((a[k]'h1).toNat : Int) != ((b[k]'h2).toNat : Int)) = true := by rw [bne_iff_ne]; omega
          have HG := Lib.hid (fun (V : OldW wr) => (sign_any ((a[k]'h1).toNat : Int) ((b[k]'h2).toNat : Int) V.w').mono (fun e w' (h : _ ∧ w' = V.w') => (⟨h.1, h.2 ▸ Old.refl _⟩ : e = .returned (.int .i64 (Lib.compareInt ((a[k]'h1).toNat : Int) ((b[k]'h2).toNat : Int))) ∧ Old V.w' w')))
          clear hs he
          go_upto_region 4 with fail
          refine wp_region_old (Old.refl _) (by kernel_rfl) (by kernel_rfl) ?_
          repeat (go_big_quiet_step (fail))
          refine wpQuiet_nil ?_
          rintro ⟨wv, hv⟩
          dsimp only
          go_upto_region 5 with fail
          refine wp_region_old hv (by kernel_rfl) (by kernel_rfl) ?_
          repeat (go_big_quiet_step (with_reducible exact Calls.in_old (HG.out _)))
          refine wpQuiet_nil ?_
          rintro ⟨wu, hu⟩
          dsimp only
          go_wp2_with fail
          go_ret
          exact ⟨by rw [← Hat.out, Hs.out]; rfl, ho.trans hu⟩
      · have h2' : decide ((k : Int) < b.size) = false := by simp; omega
        have He : Hid (lexL (fun x y : UInt8 => Lib.compareInt x.toNat y.toNat) (a.data.toList.drop k) (b.data.toList.drop k) = Lib.compareInt a.size b.size) := by
          have h := Hend.out
          rw [show min a.size b.size = k from by omega] at h
          exact h
        go_wp2_with (go_at_call 55; refine (sign_any _ _ _).mono ?_; rintro e w1 ⟨rfl, rfl⟩)
        go_ret
        exact ⟨by rw [← Hat.out, He.out]; rfl, ho⟩
    · have h1' : decide ((k : Int) < a.size) = false := by simp; omega
      have He : Hid (lexL (fun x y : UInt8 => Lib.compareInt x.toNat y.toNat) (a.data.toList.drop k) (b.data.toList.drop k) = Lib.compareInt a.size b.size) := by
        have h := Hend.out
        rw [show min a.size b.size = k from by omega] at h
        exact h
      go_wp2_with (go_at_call 55; refine (sign_any _ _ _).mono ?_; rintro e w1 ⟨rfl, rfl⟩)
      go_ret
      exact ⟨by rw [← Hat.out, He.out]; rfl, ho⟩
set_option maxRecDepth 100000 in
set_option maxHeartbeats 3200000 in
theorem first_any (a b : El) (w : World) (ha : a.r ≤ 2147483647) (hb : b.r ≤ 2147483647) (hda : a.d.size ≤ 4194304) :
    Calls Tryz.prog 54 #[elV a, elV b] w fun e w' => e = .returned (.int .i64 (cmpEl a b)) ∧ Old w w' := by
  obtain ⟨ak, ar, ad⟩ := a
  obtain ⟨bk, br, bd⟩ := b
  unfold elV
  dsimp only at *
  have wr1 : wrap64 (ar : Int) = ar := w64 (by omega) (by omega)
  have wr2 : wrap64 (br : Int) = br := w64 (by omega) (by omega)
  by_cases h1 : ak = bk
  · have h1b : ((ak : Int) != bk) = false := by rw [bne_eq_false_iff_eq]; omega
    have hc0 : Lib.compareInt (ak : Int) bk = 0 := by rw [h1]; exact compareInt_zero _
    by_cases h2 : ak = 1
    · have h2b : ((ak : Int) != 1) = false := by rw [bne_eq_false_iff_eq]; omega
      have Hs := Lib.hid (show cmpEl ⟨ak, ar, ad⟩ ⟨bk, br, bd⟩ = orL [Lib.compareInt ad.size bd.size, Lib.compareBytes ad.data.toList bd.data.toList] from by unfold cmpEl; rw [if_neg (by simpa using hc0), if_pos h2])
      by_cases h3 : ad.size = bd.size
      · have h3b : ((ad.size : Int) != bd.size) = false := by rw [bne_eq_false_iff_eq]; omega
        have Ho := Lib.hid (show orL [Lib.compareInt ad.size bd.size, Lib.compareBytes ad.data.toList bd.data.toList] = Lib.compareBytes ad.data.toList bd.data.toList from by rw [orL_two, if_pos (by rw [h3]; exact compareInt_zero _)])
        have HB := Lib.hid (fun V => bytes_any ad bd V hda)
        clear h1 h2 h3 hc0
        go_enter Tryz.func54, Tryz.ntmps54
        go_wp2_with (go_at_call 58; refine (HB.out _).mono ?_; rintro e w1 ⟨rfl, ho1⟩)
        go_ret
        exact ⟨by rw [Hs.out, Ho.out]; rfl, (((Old.refl w).alloc _).alloc _).trans ho1⟩
      · have h3b : ((ad.size : Int) != bd.size) = true := by rw [bne_iff_ne]; omega
        have Ho := Lib.hid (show orL [Lib.compareInt ad.size bd.size, Lib.compareBytes ad.data.toList bd.data.toList] = Lib.compareInt ad.size bd.size from by rw [orL_two, if_neg (compareInt_ne (by omega))])
        clear h1 h2 h3 hc0
        go_enter Tryz.func54, Tryz.ntmps54
        go_wp2_with (go_at_call 55; refine (sign_any _ _ _).mono ?_; rintro e w1 ⟨rfl, rfl⟩)
        go_ret
        exact ⟨by rw [Hs.out, Ho.out]; rfl, ((Old.refl w).alloc _).alloc _⟩
    · have h2b : ((ak : Int) != 1) = true := by rw [bne_iff_ne]; omega
      have Hs := Lib.hid (show cmpEl ⟨ak, ar, ad⟩ ⟨bk, br, bd⟩ = Lib.compareInt ar br from by unfold cmpEl; rw [if_neg (by simpa using hc0), if_neg h2])
      clear h1 h2 hc0
      go_enter Tryz.func54, Tryz.ntmps54
      go_wp2_with (go_at_call 55; refine (sign_any _ _ _).mono ?_; rintro e w1 ⟨rfl, rfl⟩)
      go_ret
      exact ⟨by rw [Hs.out]; rfl, ((Old.refl w).alloc _).alloc _⟩
  · have h1b : ((ak : Int) != bk) = true := by rw [bne_iff_ne]; omega
    have Hs := Lib.hid (show cmpEl ⟨ak, ar, ad⟩ ⟨bk, br, bd⟩ = Lib.compareInt ak bk from by unfold cmpEl; rw [if_pos (show ¬ Lib.compareInt (ak : Int) bk = 0 from compareInt_ne (by omega))])
    clear h1
    go_enter Tryz.func54, Tryz.ntmps54
    go_wp2_with (go_at_call 55; refine (sign_any _ _ _).mono ?_; rintro e w1 ⟨rfl, rfl⟩)
    go_ret
    exact ⟨by rw [Hs.out]; rfl, ((Old.refl w).alloc _).alloc _⟩
end Go.Proofs.YtpifkinlaicliaaGreatDoor
/-
  TEXT, THE DOCUMENT's, G: codes.
-/


namespace Go.Proofs.YtpifkinlaicliaaGreatDoor
open Go.RowKit
attribute [local go_sem] Old.refl Old.alloc Old.drew Old.setCell OldW.old

def rsC (t : List Chr) : List Int := t.map (fun c => (c.r : Int))
theorem rsC_get {t : List Chr} {k : Nat} {x : Chr} (h : t[k]? = some x) : (rsC t)[k]? = some (x.r : Int) := by unfold rsC; rw [List.getElem?_map, h]; rfl
theorem rsC_len (t : List Chr) : (rsC t).length = t.length := by simp [rsC]
theorem wrap64_in {x : Int} (h : -2147483648 ≤ x ∧ x ≤ 2147483647) : wrap64 x = x := by
  unfold wrap64
  omega
set_option maxRecDepth 100000 in
set_option maxHeartbeats 3200000 in
theorem codes_small (u v : Value) (x y : List Chr) (w : World) (hx : Recs chE w u x) (hy : Recs chE w v y) (bx : ∀ c ∈ x, c.r ≤ 1114111) (by' : ∀ c ∈ y, c.r ≤ 1114111) (lx : x.length ≤ 4194304) (ly : y.length ≤ 4194304) :
    Calls Tryz.prog 56 #[u, v, .bool true] w fun e w' => e = .returned (.int .i64 (lexL (byF smallC) (rsC x) (rsC y))) ∧ Old w w' := by
  obtain ⟨a1, cap1, b1, off1, rfl, hc11, hc12, ha1, ht1⟩ := hx
  obtain ⟨a2, cap2, b2, off2, rfl, hc21, hc22, ha2, ht2⟩ := hy
  have Ha1 := Lib.hid ha1
  have Ha2 := Lib.hid ha2
  have Ht1 := Lib.hid ht1
  have Ht2 := Lib.hid ht2
  have Hend := Lib.hid (lexL_end (f := byF smallC) (x := rsC x) (y := rsC y) rfl)
  rw [rsC_len, rsC_len] at Hend
  clear ha1 ha2 ht1 ht2
  go_enter Tryz.func56, Tryz.ntmps56
  go_wp2_with fail
  go_loopw [7] (fun j wr => ∃ k : Nat, k ≤ x.length ∧ k ≤ y.length ∧ j = .int .i64 k ∧ lexL (byF smallC) ((rsC x).drop k) ((rsC y).drop k) = lexL (byF smallC) (rsC x) (rsC y) ∧ Old w wr) (fun j _ => x.length - (intOf j).toNat)
  case atStart => exact ⟨0, Nat.zero_le _, Nat.zero_le _, rfl, rfl, Old.refl _⟩
  case round =>
    obtain ⟨k, hka, hkb, rfl, hat, ho⟩ := hrel
    have Hat := Lib.hid hat
    clear hat
    by_cases h1 : k < x.length
    · have h1' : decide ((k : Int) < x.length) = true := by simp; omega
      have hi1 : (k : Int) < x.length := by omega
      by_cases h2 : k < y.length
      · have h2' : decide ((k : Int) < y.length) = true := by simp; omega
        have hi2 : (k : Int) < y.length := by omega
        obtain rfl := Ha1.out (by omega)
        obtain rfl := Ha2.out (by omega)
        obtain ⟨p, hp⟩ : ∃ p, x[k]? = some p := ⟨_, List.getElem?_eq_getElem h1⟩
        obtain ⟨q, hq⟩ : ∃ q, y[k]? = some q := ⟨_, List.getElem?_eq_getElem h2⟩
        have hpb := bx p (List.mem_of_getElem? hp)
        have hqb := by' q (List.mem_of_getElem? hq)
        have K1 := Recs.chr Ht1.out hp
        have K2 := Recs.chr Ht2.out hq
        have k1 := fun V (o : Old wr V) => (K1 V (ho.trans o)).1
        have k2 := fun V (o : Old wr V) => (K2 V (ho.trans o)).1
        have hsp : (smallC p.r = smallC q.r ∧ lexL (byF smallC) ((rsC x).drop k) ((rsC y).drop k) = lexL (byF smallC) ((rsC x).drop (k + 1)) ((rsC y).drop (k + 1))) ∨ (¬ smallC p.r = smallC q.r ∧ lexL (byF smallC) ((rsC x).drop k) ((rsC y).drop k) = Lib.compareInt (smallC p.r) (smallC q.r)) := by
          by_cases h : smallC p.r = smallC q.r
          · exact .inl ⟨h, lexL_skip (rsC_get hp) (rsC_get hq) (by show Lib.compareInt _ _ = 0; rw [h]; exact compareInt_zero _)⟩
          · exact .inr ⟨h, lexL_hit (rsC_get hp) (rsC_get hq) (compareInt_ne h)⟩
        have HS1 := Lib.hid (fun V => RSmall_any p.r V (by omega))
        have HS2 := Lib.hid (fun V => RSmall_any q.r V (by omega))
        have hg1 := smallC_bounds (r := (p.r : Int)) (by omega)
        have hg2 := smallC_bounds (r := (q.r : Int)) (by omega)
        clear hp hq K1 K2
        generalize p.r = pr at *
        generalize q.r = qr at *
        have wr1 : wrap64 (smallC (pr : Int)) = smallC (pr : Int) := wrap64_in hg1
        have wr2 : wrap64 (smallC (qr : Int)) = smallC (qr : Int) := wrap64_in hg2
        clear hg1 hg2
        generalize smallC (pr : Int) = fp at *
        generalize smallC (qr : Int) = fq at *
        rcases hsp with ⟨he, hs⟩ | ⟨he, hs⟩
        · have Hs := Lib.hid hs
          have hbn : (fp != fq) = false := by rw [bne_eq_false_iff_eq]; exact he
          clear hs he
          go_upto_region 4 with fail
          refine wp_region_old (Old.refl _) (by kernel_rfl) (by kernel_rfl) ?_
          repeat (go_big_quiet_step (fail))
          refine wpQuiet_nil ?_
          rintro ⟨wv, hv⟩
          dsimp only
          go_wp2_with fail
          refine (HS1.out _).mono ?_
          rintro e w8 ⟨rfl, rfl⟩
          go_wp2_with fail
          refine (HS2.out _).mono ?_
          rintro e w9 ⟨rfl, rfl⟩
          go_wp2_with fail
          go_roundw
          case rel => exact ⟨k + 1, by omega, by omega, by go_num, by rw [← Hs.out]; exact Hat.out, ho.trans hv⟩
          case measure => simp [intOf]; omega
        · have Hs := Lib.hid hs
          have hbn : (fp != fq) = true := by rw [bne_iff_ne]; exact he
          clear hs he
          go_upto_region 4 with fail
          refine wp_region_old (Old.refl _) (by kernel_rfl) (by kernel_rfl) ?_
          repeat (go_big_quiet_step (fail))
          refine wpQuiet_nil ?_
          rintro ⟨wv, hv⟩
          dsimp only
          go_wp2_with fail
          refine (HS1.out _).mono ?_
          rintro e w8 ⟨rfl, rfl⟩
          go_wp2_with fail
          refine (HS2.out _).mono ?_
          rintro e w9 ⟨rfl, rfl⟩
          go_wp2_with fail
          refine (sign_any _ _ _).mono ?_
          rintro e w7 ⟨rfl, rfl⟩
          go_wp2_with fail
          go_ret
          exact ⟨by rw [← Hat.out, Hs.out]; rfl, ho.trans hv⟩
      · have h2' : decide ((k : Int) < y.length) = false := by simp; omega
        have He : Hid (lexL (byF smallC) ((rsC x).drop k) ((rsC y).drop k) = Lib.compareInt x.length y.length) := by
          have h := Hend.out
          rw [show min x.length y.length = k from by omega] at h
          exact h
        go_wp2_with (go_at_call 55; refine (sign_any _ _ _).mono ?_; rintro e w1 ⟨rfl, rfl⟩)
        go_ret
        exact ⟨by rw [← Hat.out, He.out]; rfl, ho⟩
    · have h1' : decide ((k : Int) < x.length) = false := by simp; omega
      have He : Hid (lexL (byF smallC) ((rsC x).drop k) ((rsC y).drop k) = Lib.compareInt x.length y.length) := by
        have h := Hend.out
        rw [show min x.length y.length = k from by omega] at h
        exact h
      go_wp2_with (go_at_call 55; refine (sign_any _ _ _).mono ?_; rintro e w1 ⟨rfl, rfl⟩)
      go_ret
      exact ⟨by rw [← Hat.out, He.out]; rfl, ho⟩
set_option maxRecDepth 100000 in
set_option maxHeartbeats 3200000 in
theorem codes_same (u v : Value) (x y : List Chr) (w : World) (hx : Recs chE w u x) (hy : Recs chE w v y) (bx : ∀ c ∈ x, c.r ≤ 1114111) (by' : ∀ c ∈ y, c.r ≤ 1114111) (lx : x.length ≤ 4194304) (ly : y.length ≤ 4194304) :
    Calls Tryz.prog 56 #[u, v, .bool false] w fun e w' => e = .returned (.int .i64 (lexL (byF id) (rsC x) (rsC y))) ∧ Old w w' := by
  obtain ⟨a1, cap1, b1, off1, rfl, hc11, hc12, ha1, ht1⟩ := hx
  obtain ⟨a2, cap2, b2, off2, rfl, hc21, hc22, ha2, ht2⟩ := hy
  have Ha1 := Lib.hid ha1
  have Ha2 := Lib.hid ha2
  have Ht1 := Lib.hid ht1
  have Ht2 := Lib.hid ht2
  have Hend := Lib.hid (lexL_end (f := byF id) (x := rsC x) (y := rsC y) rfl)
  rw [rsC_len, rsC_len] at Hend
  clear ha1 ha2 ht1 ht2
  go_enter Tryz.func56, Tryz.ntmps56
  go_wp2_with fail
  go_loopw [7] (fun j wr => ∃ k : Nat, k ≤ x.length ∧ k ≤ y.length ∧ j = .int .i64 k ∧ lexL (byF id) ((rsC x).drop k) ((rsC y).drop k) = lexL (byF id) (rsC x) (rsC y) ∧ Old w wr) (fun j _ => x.length - (intOf j).toNat)
  case atStart => exact ⟨0, Nat.zero_le _, Nat.zero_le _, rfl, rfl, Old.refl _⟩
  case round =>
    obtain ⟨k, hka, hkb, rfl, hat, ho⟩ := hrel
    have Hat := Lib.hid hat
    clear hat
    by_cases h1 : k < x.length
    · have h1' : decide ((k : Int) < x.length) = true := by simp; omega
      have hi1 : (k : Int) < x.length := by omega
      by_cases h2 : k < y.length
      · have h2' : decide ((k : Int) < y.length) = true := by simp; omega
        have hi2 : (k : Int) < y.length := by omega
        obtain rfl := Ha1.out (by omega)
        obtain rfl := Ha2.out (by omega)
        obtain ⟨p, hp⟩ : ∃ p, x[k]? = some p := ⟨_, List.getElem?_eq_getElem h1⟩
        obtain ⟨q, hq⟩ : ∃ q, y[k]? = some q := ⟨_, List.getElem?_eq_getElem h2⟩
        have hpb := bx p (List.mem_of_getElem? hp)
        have hqb := by' q (List.mem_of_getElem? hq)
        have K1 := Recs.chr Ht1.out hp
        have K2 := Recs.chr Ht2.out hq
        have k1 := fun V (o : Old wr V) => (K1 V (ho.trans o)).1
        have k2 := fun V (o : Old wr V) => (K2 V (ho.trans o)).1
        have hsp : (id (p.r : Int) = id (q.r : Int) ∧ lexL (byF id) ((rsC x).drop k) ((rsC y).drop k) = lexL (byF id) ((rsC x).drop (k + 1)) ((rsC y).drop (k + 1))) ∨ (¬ id (p.r : Int) = id (q.r : Int) ∧ lexL (byF id) ((rsC x).drop k) ((rsC y).drop k) = Lib.compareInt (id (p.r : Int)) (id (q.r : Int))) := by
          by_cases h : id (p.r : Int) = id (q.r : Int)
          · exact .inl ⟨h, lexL_skip (rsC_get hp) (rsC_get hq) (by show Lib.compareInt _ _ = 0; rw [h]; exact compareInt_zero _)⟩
          · exact .inr ⟨h, lexL_hit (rsC_get hp) (rsC_get hq) (compareInt_ne h)⟩
        have hg1 : -2147483648 ≤ id (p.r : Int) ∧ id (p.r : Int) ≤ 2147483647 := by show -2147483648 ≤ (p.r : Int) ∧ (p.r : Int) ≤ 2147483647; omega
        have hg2 : -2147483648 ≤ id (q.r : Int) ∧ id (q.r : Int) ≤ 2147483647 := by show -2147483648 ≤ (q.r : Int) ∧ (q.r : Int) ≤ 2147483647; omega
        clear hp hq K1 K2
        generalize p.r = pr at *
        generalize q.r = qr at *
        have wr1 : wrap64 (id (pr : Int)) = id (pr : Int) := wrap64_in hg1
        have wr2 : wrap64 (id (qr : Int)) = id (qr : Int) := wrap64_in hg2
        clear hg1 hg2
        change ∀ V, Old wr V → V.cell? ⟨b1, off1 + k * 4, none⟩ = some (.int .i32 (id (pr : Int))) at k1
        change ∀ V, Old wr V → V.cell? ⟨b2, off2 + k * 4, none⟩ = some (.int .i32 (id (qr : Int))) at k2
        generalize id (pr : Int) = fp at *
        generalize id (qr : Int) = fq at *
        rcases hsp with ⟨he, hs⟩ | ⟨he, hs⟩
        · have Hs := Lib.hid hs
          have hbn : (fp != fq) = false := by rw [bne_eq_false_iff_eq]; exact he
          clear hs he
          go_upto_region 4 with fail
          refine wp_region_old (Old.refl _) (by kernel_rfl) (by kernel_rfl) ?_
          repeat (go_big_quiet_step (fail))
          refine wpQuiet_nil ?_
          rintro ⟨wv, hv⟩
          dsimp only
          go_wp2_with fail
          go_roundw
          case rel => exact ⟨k + 1, by omega, by omega, by go_num, by rw [← Hs.out]; exact Hat.out, ho.trans hv⟩
          case measure => simp [intOf]; omega
        · have Hs := Lib.hid hs
          have hbn : (fp != fq) = true := by rw [bne_iff_ne]; exact he
          clear hs he
          go_upto_region 4 with fail
          refine wp_region_old (Old.refl _) (by kernel_rfl) (by kernel_rfl) ?_
          repeat (go_big_quiet_step (fail))
          refine wpQuiet_nil ?_
          rintro ⟨wv, hv⟩
          dsimp only
          go_wp2_with fail
          refine (sign_any _ _ _).mono ?_
          rintro e w7 ⟨rfl, rfl⟩
          go_wp2_with fail
          go_ret
          exact ⟨by rw [← Hat.out, Hs.out]; rfl, ho.trans hv⟩
      · have h2' : decide ((k : Int) < y.length) = false := by simp; omega
        have He : Hid (lexL (byF id) ((rsC x).drop k) ((rsC y).drop k) = Lib.compareInt x.length y.length) := by
          have h := Hend.out
          rw [show min x.length y.length = k from by omega] at h
          exact h
        go_wp2_with (go_at_call 55; refine (sign_any _ _ _).mono ?_; rintro e w1 ⟨rfl, rfl⟩)
        go_ret
        exact ⟨by rw [← Hat.out, He.out]; rfl, ho⟩
    · have h1' : decide ((k : Int) < x.length) = false := by simp; omega
      have He : Hid (lexL (byF id) ((rsC x).drop k) ((rsC y).drop k) = Lib.compareInt x.length y.length) := by
        have h := Hend.out
        rw [show min x.length y.length = k from by omega] at h
        exact h
      go_wp2_with (go_at_call 55; refine (sign_any _ _ _).mono ?_; rintro e w1 ⟨rfl, rfl⟩)
      go_ret
      exact ⟨by rw [← Hat.out, He.out]; rfl, ho⟩
end Go.Proofs.YtpifkinlaicliaaGreatDoor
