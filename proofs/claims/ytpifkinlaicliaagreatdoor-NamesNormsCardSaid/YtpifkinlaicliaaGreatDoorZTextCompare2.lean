/-
  TEXT, COMPARE: or, elements compared.
-/
import Derived.Test.YtpifkinlaicliaaGreatDoorZTextElems2
import Derived.Test.YtpifkinlaicliaaGreatDoorZNums
import Derived.StillTailTactics
import Derived.Laws.IdiomStrings
namespace Go.Proofs.YtpifkinlaicliaaGreatDoor
open Go.RowKit
attribute [local go_sem] Old.refl Old.alloc Old.drew Old.setCell OldW.old

/-- the first that is not nought -/
def orL : List Int → Int
  | [] => 0
  | x :: r => if x = 0 then orL r else x
theorem orL_hit {l : List Int} {k : Nat} (h : k < l.length) (h' : ¬ ix l k = 0) : orL (l.drop k) = ix l k := by
  have e : ix l k = l[k] := by simp [ix, List.getD, List.getElem?_eq_getElem h]
  rw [List.drop_eq_getElem_cons h, orL, if_neg (by rw [← e]; exact h'), e]
theorem orL_skip {l : List Int} {k : Nat} (h : k < l.length) (h' : ix l k = 0) : orL (l.drop k) = orL (l.drop (k + 1)) := by
  have e : ix l k = l[k] := by simp [ix, List.getD, List.getElem?_eq_getElem h]
  rw [List.drop_eq_getElem_cons h, orL, if_pos (by rw [← e]; exact h')]
theorem Nums.fresh {k : IntKind} (w : World) (E : TypeId) (l : List Int) (h : l.length ≤ 9223372036854775807 := by simp) : Nums k (w.alloc (.cells (l.map (Value.int k)).toArray E)) (.slice (some ⟨w.heap.size, 0, none⟩) l.length l.length) l :=
  Nums.mk (Nat.le_refl _) h (fun i hi => by simp [go_sem, ix, hi])
theorem Or_any (v : Value) (l : List Int) (w : World) (h : Nums .i64 w v l) :
    Calls Tryz.prog 47 #[v] w fun e w' => e = .returned (.int .i64 (orL l)) ∧ w' = w := by
  obtain ⟨a, cap, b, off, rfl, hc1, hc2, ha, ht⟩ := h
  have Ha := Lib.hid ha
  have Ht := Lib.hid ht
  clear ha ht
  go_enter Tryz.func47, Tryz.ntmps47
  go_wp2_with fail
  go_loopw [8] (fun j wr => ∃ k : Nat, k ≤ l.length ∧ j = .int .i64 k ∧ orL (l.drop k) = orL l ∧ wr = w) (fun j _ => l.length - (intOf j).toNat)
  case atStart => exact ⟨0, Nat.zero_le _, rfl, rfl, by trivial⟩
  case round =>
    obtain ⟨k, hk, rfl, hat, rfl⟩ := hrel
    have Hat := Lib.hid hat
    clear hat
    by_cases hlt : k < l.length
    · have hk1 : (k : Int) < l.length := by omega
      obtain rfl := Ha.out (by omega)
      have k0 := Ht.out k hlt wr (Old.refl wr)
      by_cases h0 : ix l k = 0
      · have Hs := Lib.hid (orL_skip hlt h0)
        have hb : (ix l k != 0) = false := by rw [bne_eq_false_iff_eq]; exact h0
        go_wp2_with fail
        go_roundw
        case rel => exact ⟨k + 1, by omega, by go_num, by rw [← Hs.out]; exact Hat.out, by trivial⟩
        case measure => simp [intOf]; omega
      · have Hs := Lib.hid (orL_hit hlt h0)
        have hb : (ix l k != 0) = true := by rw [bne_iff_ne]; exact h0
        clear h0
        go_wp2_with fail
        go_ret
        exact ⟨by rw [← Hat.out, Hs.out]; rfl, rfl⟩
    · obtain rfl : k = l.length := by omega
      have He := Lib.hid (show orL l = 0 from by rw [← Hat.out, List.drop_length]; rfl)
      go_wp2_with fail
      go_ret
      exact ⟨by rw [He.out]; rfl, rfl⟩
/-- cmp.Compare at rune -/
theorem Cmp32_any (x y : Int) (w : World) : Calls Tryz.prog 85 #[.int .i32 x, .int .i32 y] w fun e w' => e = .returned (.int .i64 (Lib.compareInt x y)) ∧ w' = w := by
  go_enter Tryz.func85, Tryz.ntmps85
  go_wp2
  all_goals
    go_ret
    refine ⟨?_, rfl⟩
    unfold Lib.compareInt
    first
      | (rw [if_pos (by omega)]; rfl)
      | (rw [if_neg (by omega), if_pos (by omega)]; rfl)
      | (rw [if_neg (by omega), if_neg (by omega)]; rfl)
/-- two elements -/
def cmpEl (a b : El) : Int :=
  if Lib.compareInt a.k b.k ≠ 0 then Lib.compareInt a.k b.k
  else if a.k = 1 then orL [Lib.compareInt a.d.size b.d.size, Lib.compareBytes a.d.data.toList b.d.data.toList]
  else Lib.compareInt a.r b.r
def elV (x : El) : Value := .agg #[.int .i64 x.k, .int .i32 x.r, .string x.d]
theorem compareInt_zero (x : Int) : Lib.compareInt x x = 0 := by unfold Lib.compareInt; rw [if_neg (by omega), if_neg (by omega)]
theorem compareInt_eq {x y : Int} (h : Lib.compareInt x y = 0) : x = y := by
  unfold Lib.compareInt at h
  split at h
  · omega
  · split at h
    · omega
    · omega
set_option maxRecDepth 100000 in
set_option maxHeartbeats 1600000 in
theorem compareElements_any (a b : El) (w : World) :
    Calls Tryz.prog 83 #[elV a, elV b] w fun e w' => e = .returned (.int .i64 (cmpEl a b)) ∧ Old w w' := by
  obtain ⟨ak, ar, ad⟩ := a
  obtain ⟨bk, br, bd⟩ := b
  unfold elV
  dsimp only
  by_cases h1 : Lib.compareInt ak bk = 0
  · have h1b : (Lib.compareInt ak bk != 0) = false := by rw [bne_eq_false_iff_eq]; exact h1
    by_cases h2 : ak = 1
    · have h2b : ((ak : Int) == 1) = true := by rw [beq_iff_eq]; omega
      have HC := Lib.hid (fun w => Tryz.cmp_Compare_int ak bk w)
      have Hs := Lib.hid (show cmpEl ⟨ak, ar, ad⟩ ⟨bk, br, bd⟩ = orL [Lib.compareInt ad.size bd.size, Lib.compareBytes ad.data.toList bd.data.toList] from by unfold cmpEl; rw [if_neg (by simpa using h1), if_pos h2])
      clear h1 h2
      go_enter Tryz.func83, Tryz.ntmps83
      go_upto_region 5 with (first | (go_at_call 84; refine (HC.out _).mono ?_; rintro e w1 ⟨rfl, rfl⟩))
      have ho : Old w ((w.alloc (.cells #[.int .i64 ak, .int .i32 ar, .string ad] 144)).alloc (.cells #[.int .i64 bk, .int .i32 br, .string bd] 144)) := ((Old.refl w).alloc _).alloc _
      have c2 : ((w.alloc (.cells #[.int .i64 ak, .int .i32 ar, .string ad] 144)).alloc (.cells #[.int .i64 bk, .int .i32 br, .string bd] 144)).drew.cell? ⟨w.heap.size, 2, none⟩ = some (.string ad) := by simp [go_sem]
      have d2 : ((w.alloc (.cells #[.int .i64 ak, .int .i32 ar, .string ad] 144)).alloc (.cells #[.int .i64 bk, .int .i32 br, .string bd] 144)).drew.cell? ⟨w.heap.size + 1, 2, none⟩ = some (.string bd) := by simp [go_sem]
      generalize (w.alloc (.cells #[.int .i64 ak, .int .i32 ar, .string ad] 144)).alloc (.cells #[.int .i64 bk, .int .i32 br, .string bd] 144) = w5 at *
      refine wp_region_still_tail 12 (by kernel_rfl) (by kernel_rfl) ?_
      change wpStill _ _ w5.drew (fun a' => wpList _ _ _ _ a' w5.drew) _ _
      have ho5 : Old w w5.drew := ho.drew
      clear ho
      generalize w5.drew = w6 at *
      simp only [List.take_succ_cons, List.take_zero, List.drop_succ_cons, List.drop_zero]
      repeat still_step
      still_call (Tryz.cmp_Compare_int _ _ _)
      repeat still_step
      still_call (Tryz.strings_Compare _ _ _)
      refine wpStill_nil ?_
      go_wp2_with fail
      refine (Or_any _ [Lib.compareInt ad.size bd.size, Lib.compareBytes ad.data.toList bd.data.toList] _ (Nums.fresh w6 3 _)).mono ?_
      rintro e w7 ⟨rfl, rfl⟩
      go_wp2_with fail
      go_ret
      exact ⟨by rw [Hs.out]; rfl, ho5.alloc _⟩
    · have h2b : ((ak : Int) == 1) = false := by rw [beq_eq_false_iff_ne]; omega
      have HC := Lib.hid (fun w => Tryz.cmp_Compare_int ak bk w)
      have HR := Lib.hid (fun w => Cmp32_any ar br w)
      have Hs := Lib.hid (show cmpEl ⟨ak, ar, ad⟩ ⟨bk, br, bd⟩ = Lib.compareInt ar br from by unfold cmpEl; rw [if_neg (by simpa using h1), if_neg h2])
      clear h1
      go_enter Tryz.func83, Tryz.ntmps83
      go_wp2_with (first | (go_at_call 84; refine (HC.out _).mono ?_; rintro e w1 ⟨rfl, rfl⟩) | (go_at_call 85; refine (HR.out _).mono ?_; rintro e w1 ⟨rfl, rfl⟩))
      go_ret
      exact ⟨by rw [Hs.out]; rfl, ((Old.refl w).alloc _).alloc _⟩
  · have h1b : (Lib.compareInt ak bk != 0) = true := by rw [bne_iff_ne]; exact h1
    have HC := Lib.hid (fun w => Tryz.cmp_Compare_int ak bk w)
    have Hs := Lib.hid (show cmpEl ⟨ak, ar, ad⟩ ⟨bk, br, bd⟩ = Lib.compareInt ak bk from by unfold cmpEl; rw [if_pos h1])
    clear h1
    go_enter Tryz.func83, Tryz.ntmps83
    go_wp2_with (first | (go_at_call 84; refine (HC.out _).mono ?_; rintro e w1 ⟨rfl, rfl⟩))
    go_ret
    exact ⟨by rw [Hs.out]; rfl, ((Old.refl w).alloc _).alloc _⟩
end Go.Proofs.YtpifkinlaicliaaGreatDoor
/-
  TEXT, COMPARE: lists in order; texts by their elements, by their characters.
-/


namespace Go.Proofs.YtpifkinlaicliaaGreatDoor
open Go.RowKit
attribute [local go_sem] Old.refl Old.alloc Old.drew Old.setCell OldW.old

/-- two lists, by their first unlike ones -/
def lexL {α : Type} (f : α → α → Int) : List α → List α → Int
  | [], [] => 0
  | [], _ :: _ => -1
  | _ :: _, [] => 1
  | a :: x, b :: y => if f a b = 0 then lexL f x y else f a b
theorem lexL_hit {α : Type} {f : α → α → Int} {x y : List α} {k : Nat} {a b : α} (hx : x[k]? = some a) (hy : y[k]? = some b) (h : ¬ f a b = 0) : lexL f (x.drop k) (y.drop k) = f a b := by
  rw [List.drop_eq_getElem_cons (List.getElem?_eq_some_iff.1 hx).1, List.drop_eq_getElem_cons (List.getElem?_eq_some_iff.1 hy).1, (List.getElem?_eq_some_iff.1 hx).2, (List.getElem?_eq_some_iff.1 hy).2, lexL, if_neg h]
theorem lexL_skip {α : Type} {f : α → α → Int} {x y : List α} {k : Nat} {a b : α} (hx : x[k]? = some a) (hy : y[k]? = some b) (h : f a b = 0) : lexL f (x.drop k) (y.drop k) = lexL f (x.drop (k + 1)) (y.drop (k + 1)) := by
  rw [List.drop_eq_getElem_cons (List.getElem?_eq_some_iff.1 hx).1, List.drop_eq_getElem_cons (List.getElem?_eq_some_iff.1 hy).1, (List.getElem?_eq_some_iff.1 hx).2, (List.getElem?_eq_some_iff.1 hy).2, lexL, if_pos h]
theorem lexL_end {α : Type} {f : α → α → Int} {x y : List α} {k : Nat} (h : k = min x.length y.length) : lexL f (x.drop k) (y.drop k) = Lib.compareInt x.length y.length := by
  unfold Lib.compareInt
  rcases Nat.lt_trichotomy x.length y.length with h1 | h1 | h1
  · rw [if_pos (by omega), List.drop_eq_nil_of_le (by omega), List.drop_eq_getElem_cons (by omega)]; rfl
  · rw [if_neg (by omega), if_neg (by omega), List.drop_eq_nil_of_le (by omega), List.drop_eq_nil_of_le (by omega)]; rfl
  · subst h; rw [if_neg (by omega), if_pos (by omega), (show y.drop (min x.length y.length) = [] from List.drop_eq_nil_of_le (by omega)), List.drop_eq_getElem_cons (by omega)]; rfl
/-- what a record's cells say in every later world -/
theorem Recs.three {w : World} {b off i : Nat} {t : List El} (ht : ∀ j u, (elE.all t)[j]? = some u → ∀ W, Old w W → W.cell? ⟨b, off + j, none⟩ = some u) {x : El} (hx : t[i]? = some x) :
    ∀ V, Old w V → V.cell? ⟨b, off + i * 3, none⟩ = some (.int .i64 x.k) ∧ V.cell? ⟨b, off + i * 3 + 1, none⟩ = some (.int .i32 x.r) ∧ V.cell? ⟨b, off + i * 3 + 2, none⟩ = some (.string x.d) := fun V o => by
  have h0 := ht (i * 3 + 0) _ (Enc.all_at (c := elE) (j := 0) hx rfl) V o
  have h1 := ht (i * 3 + 1) _ (Enc.all_at (c := elE) (j := 1) hx rfl) V o
  have h2 := ht (i * 3 + 2) _ (Enc.all_at (c := elE) (j := 2) hx rfl) V o
  rw [← Nat.add_assoc] at h1 h2
  exact ⟨h0, h1, h2⟩
set_option maxRecDepth 100000 in
set_option maxHeartbeats 3200000 in
theorem byElements_any (a b : ByteArray) (w : World) (hT : Tabs w) (ha : a.size ≤ 4194304) (hb : b.size ≤ 4194304) :
    Calls Tryz.prog 48 #[.string a, .string b] w fun e w' => e = .returned (.int .i64 (lexL cmpEl (elsS a) (elsS b))) ∧ Old w w' := by
  have HA := Lib.hid (elements_any a w hT ha)
  have HB := Lib.hid (fun V (o : Old w V) => elements_any b V (hT.old o) hb)
  generalize elsS a = x at *
  generalize elsS b = y at *
  go_enter Tryz.func48, Tryz.ntmps48
  go_wp2_with fail
  refine HA.out.mono ?_
  rintro e w1 ⟨⟨v1, rfl, hv1⟩, ho1⟩
  go_wp2_with fail
  refine (HB.out _ ho1).mono ?_
  rintro e w2 ⟨⟨v2, rfl, hv2⟩, ho2⟩
  obtain ⟨a1, cap1, b1, off1, rfl, hc11, hc12, ha1, ht1⟩ := (hv1.recs.old ho2)
  obtain ⟨a2, cap2, b2, off2, rfl, hc21, hc22, ha2, ht2⟩ := hv2.recs
  have Ha1 := Lib.hid ha1
  have Ha2 := Lib.hid ha2
  have Ht1 := Lib.hid ht1
  have Ht2 := Lib.hid ht2
  clear ha1 ha2 ht1 ht2 hv1 hv2
  go_upto_region 2 with fail
  go_cut [17, 18] from 13 to 18 (fun n j wx => n = .int .i64 (min x.length y.length : Nat) ∧ j = .int .i64 (0 : Nat) ∧ w2 = wx)
  case' first =>
    go_wp2_with fail
    all_goals
      go_meet
      refine ⟨congrArg (Value.int .i64) ?_, rfl, rfl⟩
      omega
  obtain ⟨rfl, rfl, rfl⟩ := hcut
  have hmx : min x.length y.length ≤ x.length := Nat.min_le_left _ _
  have hmy : min x.length y.length ≤ y.length := Nat.min_le_right _ _
  have Hend := Lib.hid (lexL_end (f := cmpEl) (x := x) (y := y) rfl)
  generalize min x.length y.length = n at *
  go_wp2_with fail
  go_loopw [18] (fun j wr => ∃ k : Nat, k ≤ n ∧ j = .int .i64 k ∧ lexL cmpEl (x.drop k) (y.drop k) = lexL cmpEl x y ∧ Old w2 wr) (fun j _ => n - (intOf j).toNat)
  case atStart => exact ⟨0, Nat.zero_le _, rfl, rfl, Old.refl _⟩
  case round =>
    obtain ⟨k, hk, rfl, hat, ho⟩ := hrel
    have Hat := Lib.hid hat
    clear hat
    by_cases hlt : k < n
    · have hk1 : (k : Int) < n := by omega
      have hkx : (k : Int) < x.length := by omega
      have hky : (k : Int) < y.length := by omega
      have hkx' : k < x.length := by omega
      have hky' : k < y.length := by omega
      obtain rfl := Ha1.out (by omega)
      obtain rfl := Ha2.out (by omega)
      obtain ⟨p, hp⟩ : ∃ p, x[k]? = some p := ⟨_, List.getElem?_eq_getElem (by omega)⟩
      obtain ⟨q, hq⟩ : ∃ q, y[k]? = some q := ⟨_, List.getElem?_eq_getElem (by omega)⟩
      have K1 := Recs.three Ht1.out hp
      have K2 := Recs.three Ht2.out hq
      have k1 := fun V (o : Old wr V) => (K1 V (ho.trans o)).1
      have k2 := fun V (o : Old wr V) => (K1 V (ho.trans o)).2.1
      have k3 := fun V (o : Old wr V) => (K1 V (ho.trans o)).2.2
      have j1 := fun V (o : Old wr V) => (K2 V (ho.trans o)).1
      have j2 := fun V (o : Old wr V) => (K2 V (ho.trans o)).2.1
      have j3 := fun V (o : Old wr V) => (K2 V (ho.trans o)).2.2
      have Hc := Lib.hid (fun (W : OldW wr) => compareElements_any p q W.w')
      unfold elV at Hc
      have hsplit : (cmpEl p q = 0 ∧ lexL cmpEl (x.drop k) (y.drop k) = lexL cmpEl (x.drop (k + 1)) (y.drop (k + 1))) ∨ (¬ cmpEl p q = 0 ∧ lexL cmpEl (x.drop k) (y.drop k) = cmpEl p q) := by
        by_cases h0 : cmpEl p q = 0
        · exact .inl ⟨h0, lexL_skip hp hq h0⟩
        · exact .inr ⟨h0, lexL_hit hp hq h0⟩
      clear hp hq K1 K2
      generalize cmpEl p q = c at *
      go_upto_region 5 with fail
      refine wp_region_old (Old.refl _) (by kernel_rfl) (by kernel_rfl) ?_
      repeat (go_big_quiet_step (exact Calls.in_old (Hc.out _)))
      refine wpQuiet_nil ?_
      rintro ⟨wq, hq⟩
      dsimp only
      rcases hsplit with ⟨rfl, hs⟩ | ⟨hc, hs⟩
      · have Hs := Lib.hid hs
        clear hs
        go_wp2_with fail
        go_roundw
        case rel => exact ⟨k + 1, by omega, by go_num, by rw [← Hs.out]; exact Hat.out, ho.trans hq⟩
        case measure => simp [intOf]; omega
      · have Hs := Lib.hid hs
        have hcb : (c != 0) = true := by rw [bne_iff_ne]; exact hc
        clear hs hc
        go_wp2_with fail
        go_ret
        exact ⟨by rw [← Hat.out, Hs.out]; rfl, ((ho1.trans ho2).trans ho).trans hq⟩
    · obtain rfl : k = n := by omega
      have HC := Lib.hid (fun w => Tryz.cmp_Compare_int x.length y.length w)
      go_wp2_with (first | (go_at_call 84; refine (HC.out _).mono ?_; rintro e w1 ⟨rfl, rfl⟩))
      go_ret
      exact ⟨by rw [← Hat.out, Hend.out]; rfl, (ho1.trans ho2).trans ho⟩
end Go.Proofs.YtpifkinlaicliaaGreatDoor
