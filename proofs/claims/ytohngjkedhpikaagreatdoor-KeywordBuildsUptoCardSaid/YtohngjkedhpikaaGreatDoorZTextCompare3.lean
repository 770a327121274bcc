/-
  TEXT, COMPARE: or, elements compared.
-/
import Derived.Test.YtohngjkedhpikaaGreatDoorZNums
import Derived.StillTailTactics
import Derived.Laws.IdiomStrings
namespace Go.Proofs.YtohngjkedhpikaaGreatDoor
open Go.RowKit
attribute [local go_sem] Old.refl Old.alloc Old.drew Old.setCell OldW.old

/-- the first that is not nought -/
def orL : List Int → Int
  | [] => 0
  | x :: r => if x = 0 then orL r else x
theorem orL_hit {l : List Int} {k : Nat} (h : k < l.length) (h' : ¬ ix l k = 0) : orL (l.drop k) = ix l k := by
  have e : ix l k = l[k] := by simp [ix, List.getD, List.getElem?_eq_getElem h]
  rw [List.drop_eq_getElem_cons h, orL, if_neg (by rw [← e]; exact h'), e]
theorem orL_skip {l : List Int} {k : Nat} (h : k < l.length) (h' : ix l k = 0) : orL (l.drop k) = orL (l.drop (k + 1)) := by
  have e : ix l k = l[k] := by simp [ix, List.getD, List.getElem?_eq_getElem h]
  rw [List.drop_eq_getElem_cons h, orL, if_pos (by rw [← e]; exact h')]
theorem Nums.fresh {k : IntKind} (w : World) (E : TypeId) (l : List Int) (h : l.length ≤ 9223372036854775807 := by simp) : Nums k (w.alloc (.cells (l.map (Value.int k)).toArray E)) (.slice (some ⟨w.heap.size, 0, none⟩) l.length l.length) l :=
  Nums.mk (Nat.le_refl _) h (fun i hi => by simp [go_sem, ix, hi])
theorem Or_any (v : Value) (l : List Int) (w : World) (h : Nums .i64 w v l) :
    Calls Tryz.prog 90 #[v] w fun e w' => e = .returned (.int .i64 (orL l)) ∧ w' = w := by
  obtain ⟨a, cap, b, off, rfl, hc1, hc2, ha, ht⟩ := h
  have Ha := Lib.hid ha
  have Ht := Lib.hid ht
  clear ha ht
  go_enter Tryz.func90, Tryz.ntmps90
  go_wp2_with fail
  go_loopw [8] (fun j wr => ∃ k : Nat, k ≤ l.length ∧ j = .int .i64 k ∧ orL (l.drop k) = orL l ∧ wr = w) (fun j _ => l.length - (intOf j).toNat)
  case atStart => exact ⟨0, Nat.zero_le _, rfl, rfl, by trivial⟩
  case round =>
    obtain ⟨k, hk, rfl, hat, rfl⟩ := hrel
    have Hat := Lib.hid hat
    clear hat
    by_cases hlt : k < l.length
    · have hk1 : (k : Int) < l.length := by omega
      obtain rfl := Ha.out (by omega)
      have k0 := Ht.out k hlt wr (Old.refl wr)
      by_cases h0 : ix l k = 0
      · have Hs := Lib.hid (orL_skip hlt h0)
        have hb : (ix l k != 0) = false := by rw [bne_eq_false_iff_eq]; exact h0
        go_wp2_with fail
        go_roundw
        case rel => exact ⟨k + 1, by omega, by go_num, by rw [← Hs.out]; exact Hat.out, by trivial⟩
        case measure => simp [intOf]; omega
      · have Hs := Lib.hid (orL_hit hlt h0)
        have hb : (ix l k != 0) = true := by rw [bne_iff_ne]; exact h0
        clear h0
        go_wp2_with fail
        go_ret
        exact ⟨by rw [← Hat.out, Hs.out]; rfl, rfl⟩
    · obtain rfl : k = l.length := by omega
      have He := Lib.hid (show orL l = 0 from by rw [← Hat.out, List.drop_length]; rfl)
      go_wp2_with fail
      go_ret
      exact ⟨by rw [He.out]; rfl, rfl⟩
/-- cmp.Compare at rune -/
theorem Cmp32_any (x y : Int) (w : World) : Calls Tryz.prog 138 #[.int .i32 x, .int .i32 y] w fun e w' => e = .returned (.int .i64 (Lib.compareInt x y)) ∧ w' = w := by
  go_enter Tryz.func138, Tryz.ntmps138
  go_wp2
  all_goals
    go_ret
    refine ⟨?_, rfl⟩
    unfold Lib.compareInt
    first
      | (rw [if_pos (by omega)]; rfl)
      | (rw [if_neg (by omega), if_pos (by omega)]; rfl)
      | (rw [if_neg (by omega), if_neg (by omega)]; rfl)
/-- two elements -/
def cmpEl (a b : El) : Int :=
  if Lib.compareInt a.k b.k ≠ 0 then Lib.compareInt a.k b.k
  else if a.k = 1 then orL [Lib.compareInt a.d.size b.d.size, Lib.compareBytes a.d.data.toList b.d.data.toList]
  else Lib.compareInt a.r b.r
def elV (x : El) : Value := .agg #[.int .i64 x.k, .int .i32 x.r, .string x.d]
theorem compareInt_zero (x : Int) : Lib.compareInt x x = 0 := by unfold Lib.compareInt; rw [if_neg (by omega), if_neg (by omega)]
theorem compareInt_eq {x y : Int} (h : Lib.compareInt x y = 0) : x = y := by
  unfold Lib.compareInt at h
  split at h
  · omega
  · split at h
    · omega
    · omega
set_option maxRecDepth 100000 in
set_option maxHeartbeats 1600000 in
theorem compareElements_any (a b : El) (w : World) :
    Calls Tryz.prog 136 #[elV a, elV b] w fun e w' => e = .returned (.int .i64 (cmpEl a b)) ∧ Old w w' := by
  obtain ⟨ak, ar, ad⟩ := a
  obtain ⟨bk, br, bd⟩ := b
  unfold elV
  dsimp only
  by_cases h1 : Lib.compareInt ak bk = 0
  · have h1b : (Lib.compareInt ak bk != 0) = false := by rw [bne_eq_false_iff_eq]; exact h1
    by_cases h2 : ak = 1
    · have h2b : ((ak : Int) == 1) = true := by rw [beq_iff_eq]; omega
      have HC := Lib.hid (fun w => Tryz.cmp_Compare_int ak bk w)
      have Hs := Lib.hid (show cmpEl ⟨ak, ar, ad⟩ ⟨bk, br, bd⟩ = orL [Lib.compareInt ad.size bd.size, Lib.compareBytes ad.data.toList bd.data.toList] from by unfold cmpEl; rw [if_neg (by simpa using h1), if_pos h2])
      clear h1 h2
      go_enter Tryz.func136, Tryz.ntmps136
      go_upto_region 5 with (first | (go_at_call 137; refine (HC.out _).mono ?_; rintro e w1 ⟨rfl, rfl⟩))
      have ho : Old w ((w.alloc (.cells #[.int .i64 ak, .int .i32 ar, .string ad] 155)).alloc (.cells #[.int .i64 bk, .int .i32 br, .string bd] 155)) := ((Old.refl w).alloc _).alloc _
      have c2 : ((w.alloc (.cells #[.int .i64 ak, .int .i32 ar, .string ad] 155)).alloc (.cells #[.int .i64 bk, .int .i32 br, .string bd] 155)).drew.cell? ⟨w.heap.size, 2, none⟩ = some (.string ad) := by simp [go_sem]
      have d2 : ((w.alloc (.cells #[.int .i64 ak, .int .i32 ar, .string ad] 155)).alloc (.cells #[.int .i64 bk, .int .i32 br, .string bd] 155)).drew.cell? ⟨w.heap.size + 1, 2, none⟩ = some (.string bd) := by simp [go_sem]
      generalize (w.alloc (.cells #[.int .i64 ak, .int .i32 ar, .string ad] 155)).alloc (.cells #[.int .i64 bk, .int .i32 br, .string bd] 155) = w5 at *
      refine wp_region_still_tail 12 (by kernel_rfl) (by kernel_rfl) ?_
      change wpStill _ _ w5.drew (fun a' => wpList _ _ _ _ a' w5.drew) _ _
      have ho5 : Old w w5.drew := ho.drew
      clear ho
      generalize w5.drew = w6 at *
      simp only [List.take_succ_cons, List.take_zero, List.drop_succ_cons, List.drop_zero]
      repeat still_step
      still_call (Tryz.cmp_Compare_int _ _ _)
      repeat still_step
      still_call (Tryz.strings_Compare _ _ _)
      refine wpStill_nil ?_
      go_wp2_with fail
      refine (Or_any _ [Lib.compareInt ad.size bd.size, Lib.compareBytes ad.data.toList bd.data.toList] _ (Nums.fresh w6 3 _)).mono ?_
      rintro e w7 ⟨rfl, rfl⟩
      go_wp2_with fail
      go_ret
      exact ⟨by rw [Hs.out]; rfl, ho5.alloc _⟩
    · have h2b : ((ak : Int) == 1) = false := by rw [beq_eq_false_iff_ne]; omega
      have HC := Lib.hid (fun w => Tryz.cmp_Compare_int ak bk w)
      have HR := Lib.hid (fun w => Cmp32_any ar br w)
      have Hs := Lib.hid (show cmpEl ⟨ak, ar, ad⟩ ⟨bk, br, bd⟩ = Lib.compareInt ar br from by unfold cmpEl; rw [if_neg (by simpa using h1), if_neg h2])
      clear h1
      go_enter Tryz.func136, Tryz.ntmps136
      go_wp2_with (first | (go_at_call 137; refine (HC.out _).mono ?_; rintro e w1 ⟨rfl, rfl⟩) | (go_at_call 138; refine (HR.out _).mono ?_; rintro e w1 ⟨rfl, rfl⟩))
      go_ret
      exact ⟨by rw [Hs.out]; rfl, ((Old.refl w).alloc _).alloc _⟩
  · have h1b : (Lib.compareInt ak bk != 0) = true := by rw [bne_iff_ne]; exact h1
    have HC := Lib.hid (fun w => Tryz.cmp_Compare_int ak bk w)
    have Hs := Lib.hid (show cmpEl ⟨ak, ar, ad⟩ ⟨bk, br, bd⟩ = Lib.compareInt ak bk from by unfold cmpEl; rw [if_pos h1])
    clear h1
    go_enter Tryz.func136, Tryz.ntmps136
    go_wp2_with (first | (go_at_call 137; refine (HC.out _).mono ?_; rintro e w1 ⟨rfl, rfl⟩))
    go_ret
    exact ⟨by rw [Hs.out]; rfl, ((Old.refl w).alloc _).alloc _⟩
end Go.Proofs.YtohngjkedhpikaaGreatDoor
/-
  TEXT, COMPARE: lists in order; texts by their elements, by their characters.
-/


namespace Go.Proofs.YtohngjkedhpikaaGreatDoor
open Go.RowKit
attribute [local go_sem] Old.refl Old.alloc Old.drew Old.setCell OldW.old

/-- two lists, by their first unlike ones -/
def lexL {α : Type} (f : α → α → Int) : List α → List α → Int
  | [], [] => 0
  | [], _ :: _ => -1
  | _ :: _, [] => 1
  | a :: x, b :: y => if f a b = 0 then lexL f x y else f a b
theorem lexL_hit {α : Type} {f : α → α → Int} {x y : List α} {k : Nat} {a b : α} (hx : x[k]? = some a) (hy : y[k]? = some b) (h : ¬ f a b = 0) : lexL f (x.drop k) (y.drop k) = f a b := by
  rw [List.drop_eq_getElem_cons (List.getElem?_eq_some_iff.1 hx).1, List.drop_eq_getElem_cons (List.getElem?_eq_some_iff.1 hy).1, (List.getElem?_eq_some_iff.1 hx).2, (List.getElem?_eq_some_iff.1 hy).2, lexL, if_neg h]
theorem lexL_skip {α : Type} {f : α → α → Int} {x y : List α} {k : Nat} {a b : α} (hx : x[k]? = some a) (hy : y[k]? = some b) (h : f a b = 0) : lexL f (x.drop k) (y.drop k) = lexL f (x.drop (k + 1)) (y.drop (k + 1)) := by
  rw [List.drop_eq_getElem_cons (List.getElem?_eq_some_iff.1 hx).1, List.drop_eq_getElem_cons (List.getElem?_eq_some_iff.1 hy).1, (List.getElem?_eq_some_iff.1 hx).2, (List.getElem?_eq_some_iff.1 hy).2, lexL, if_pos h]
theorem lexL_end {α : Type} {f : α → α → Int} {x y : List α} {k : Nat} (h : k = min x.length y.length) : lexL f (x.drop k) (y.drop k) = Lib.compareInt x.length y.length := by
  unfold Lib.compareInt
  rcases Nat.lt_trichotomy x.length y.length with h1 | h1 | h1
  · rw [if_pos (by omega), List.drop_eq_nil_of_le (by omega), List.drop_eq_getElem_cons (by omega)]; rfl
  · rw [if_neg (by omega), if_neg (by omega), List.drop_eq_nil_of_le (by omega), List.drop_eq_nil_of_le (by omega)]; rfl
  · subst h; rw [if_neg (by omega), if_pos (by omega), (show y.drop (min x.length y.length) = [] from List.drop_eq_nil_of_le (by omega)), List.drop_eq_getElem_cons (by omega)]; rfl
/-- what a record's cells say in every later world -/
theorem Recs.three {w : World} {b off i : Nat} {t : List El} (ht : ∀ j u, (elE.all t)[j]? = some u → ∀ W, Old w W → W.cell? ⟨b, off + j, none⟩ = some u) {x : El} (hx : t[i]? = some x) :
    ∀ V, Old w V → V.cell? ⟨b, off + i * 3, none⟩ = some (.int .i64 x.k) ∧ V.cell? ⟨b, off + i * 3 + 1, none⟩ = some (.int .i32 x.r) ∧ V.cell? ⟨b, off + i * 3 + 2, none⟩ = some (.string x.d) := fun V o => by
  have h0 := ht (i * 3 + 0) _ (Enc.all_at (c := elE) (j := 0) hx rfl) V o
  have h1 := ht (i * 3 + 1) _ (Enc.all_at (c := elE) (j := 1) hx rfl) V o
  have h2 := ht (i * 3 + 2) _ (Enc.all_at (c := elE) (j := 2) hx rfl) V o
  rw [← Nat.add_assoc] at h1 h2
  exact ⟨h0, h1, h2⟩
set_option maxRecDepth 100000 in
set_option maxHeartbeats 3200000 in
theorem byElements_any (a b : ByteArray) (w : World) (hT : Tabs w) (ha : a.size ≤ 4194304) (hb : b.size ≤ 4194304) :
    Calls Tryz.prog 91 #[.string a, .string b] w fun e w' => e = .returned (.int .i64 (lexL cmpEl (elsS a) (elsS b))) ∧ Old w w' := by
  have HA := Lib.hid (elements_any a w hT ha)
  have HB := Lib.hid (fun V (o : Old w V) => elements_any b V (hT.old o) hb)
  generalize elsS a = x at *
  generalize elsS b = y at *
  go_enter Tryz.func91, Tryz.ntmps91
  go_wp2_with fail
  refine HA.out.mono ?_
  rintro e w1 ⟨⟨v1, rfl, hv1⟩, ho1⟩
  go_wp2_with fail
  refine (HB.out _ ho1).mono ?_
  rintro e w2 ⟨⟨v2, rfl, hv2⟩, ho2⟩
  obtain ⟨a1, cap1, b1, off1, rfl, hc11, hc12, ha1, ht1⟩ := (hv1.recs.old ho2)
  obtain ⟨a2, cap2, b2, off2, rfl, hc21, hc22, ha2, ht2⟩ := hv2.recs
  have Ha1 := Lib.hid ha1
  have Ha2 := Lib.hid ha2
  have Ht1 := Lib.hid ht1
  have Ht2 := Lib.hid ht2
  clear ha1 ha2 ht1 ht2 hv1 hv2
  go_upto_region 2 with fail
  go_cut [17, 18] from 13 to 18 (fun n j wx => n = .int .i64 (min x.length y.length : Nat) ∧ j = .int .i64 (0 : Nat) ∧ w2 = wx)
  case' first =>
    go_wp2_with fail
    all_goals
      go_meet
      refine ⟨congrArg (Value.int .i64) ?_, rfl, rfl⟩
      omega
  obtain ⟨rfl, rfl, rfl⟩ := hcut
  have hmx : min x.length y.length ≤ x.length := Nat.min_le_left _ _
  have hmy : min x.length y.length ≤ y.length := Nat.min_le_right _ _
  have Hend := Lib.hid (lexL_end (f := cmpEl) (x := x) (y := y) rfl)
  generalize min x.length y.length = n at *
  go_wp2_with fail
  go_loopw [18] (fun j wr => ∃ k : Nat, k ≤ n ∧ j = .int .i64 k ∧ lexL cmpEl (x.drop k) (y.drop k) = lexL cmpEl x y ∧ Old w2 wr) (fun j _ => n - (intOf j).toNat)
  case atStart => exact ⟨0, Nat.zero_le _, rfl, rfl, Old.refl _⟩
  case round =>
    obtain ⟨k, hk, rfl, hat, ho⟩ := hrel
    have Hat := Lib.hid hat
    clear hat
    by_cases hlt : k < n
    · have hk1 : (k : Int) < n := by omega
      have hkx : (k : Int) < x.length := by omega
      have hky : (k : Int) < y.length := by omega
      have hkx' : k < x.length := by omega
      have hky' : k < y.length := by omega
      obtain rfl := Ha1.out (by omega)
      obtain rfl := Ha2.out (by omega)
      obtain ⟨p, hp⟩ : ∃ p, x[k]? = some p := ⟨_, List.getElem?_eq_getElem (by omega)⟩
      obtain ⟨q, hq⟩ : ∃ q, y[k]? = some q := ⟨_, List.getElem?_eq_getElem (by omega)⟩
      have K1 := Recs.three Ht1.out hp
      have K2 := Recs.three Ht2.out hq
      have k1 := fun V (o : Old wr V) => (K1 V (ho.trans o)).1
      have k2 := fun V (o : Old wr V) => (K1 V (ho.trans o)).2.1
      have k3 := fun V (o : Old wr V) => (K1 V (ho.trans o)).2.2
      have j1 := fun V (o : Old wr V) => (K2 V (ho.trans o)).1
      have j2 := fun V (o : Old wr V) => (K2 V (ho.trans o)).2.1
      have j3 := fun V (o : Old wr V) => (K2 V (ho.trans o)).2.2
      have Hc := Lib.hid (fun (W : OldW wr) => compareElements_any p q W.w')
      unfold elV at Hc
      have hsplit : (cmpEl p q = 0 ∧ lexL cmpEl (x.drop k) (y.drop k) = lexL cmpEl (x.drop (k + 1)) (y.drop (k + 1))) ∨ (¬ cmpEl p q = 0 ∧ lexL cmpEl (x.drop k) (y.drop k) = cmpEl p q) := by
        by_cases h0 : cmpEl p q = 0
        · exact .inl ⟨h0, lexL_skip hp hq h0⟩
        · exact .inr ⟨h0, lexL_hit hp hq h0⟩
      clear hp hq K1 K2
      generalize cmpEl p q = c at *
      go_upto_region 5 with fail
      refine wp_region_old (Old.refl _) (by kernel_rfl) (by kernel_rfl) ?_
      repeat (go_big_quiet_step (exact Calls.in_old (Hc.out _)))
      refine wpQuiet_nil ?_
      rintro ⟨wq, hq⟩
      dsimp only
      rcases hsplit with ⟨rfl, hs⟩ | ⟨hc, hs⟩
      · have Hs := Lib.hid hs
        clear hs
        go_wp2_with fail
        go_roundw
        case rel => exact ⟨k + 1, by omega, by go_num, by rw [← Hs.out]; exact Hat.out, ho.trans hq⟩
        case measure => simp [intOf]; omega
      · have Hs := Lib.hid hs
        have hcb : (c != 0) = true := by rw [bne_iff_ne]; exact hc
        clear hs hc
        go_wp2_with fail
        go_ret
        exact ⟨by rw [← Hat.out, Hs.out]; rfl, ((ho1.trans ho2).trans ho).trans hq⟩
    · obtain rfl : k = n := by omega
      have HC := Lib.hid (fun w => Tryz.cmp_Compare_int x.length y.length w)
      go_wp2_with (first | (go_at_call 137; refine (HC.out _).mono ?_; rintro e w1 ⟨rfl, rfl⟩))
      go_ret
      exact ⟨by rw [← Hat.out, Hend.out]; rfl, (ho1.trans ho2).trans ho⟩
end Go.Proofs.YtohngjkedhpikaaGreatDoor
/-
  TEXT, COMPARE: texts by their characters; two texts.
-/

namespace Go.Proofs.YtohngjkedhpikaaGreatDoor
open Go.RowKit
attribute [local go_sem] Old.refl Old.alloc Old.drew Old.setCell OldW.old

/-- the characters' numbers -/
def runesI (s : ByteArray) : List Int := (charsAt s.data.toList 0).map (fun c => (c.r : Int))
theorem runesFrom_chars (s : ByteArray) : ∀ (bound i : Nat) (acc : Array Value), s.size - i ≤ bound → Conv.runesFrom s bound i acc = acc ++ ((charsAt s.data.toList i).map (fun c => Value.int .i32 (c.r : Int))).toArray
  | 0, i, acc, h => by
    rw [charsAt_end (by rw [str_len]; omega)]
    simp [Conv.runesFrom]
  | bound + 1, i, acc, h => by
    by_cases hlt : i < s.size
    · have h1 := chN_pos s.data.toList i
      have hd : Utf8.decode s i = (chR s.data.toList i, chN s.data.toList i) := by unfold chR chN; rw [Lib.decodeL_drop]
      rw [charsAt_on (by rw [str_len]; exact hlt)]
      unfold Conv.runesFrom
      rw [if_pos hlt, hd]
      dsimp only
      rw [runesFrom_chars s bound _ _ (by omega)]
      simp
    · rw [charsAt_end (by rw [str_len]; exact hlt)]
      unfold Conv.runesFrom
      rw [if_neg hlt]; simp
theorem runes_all (s : ByteArray) : Conv.runesFrom s s.size 0 #[] = ((runesI s).map (Value.int .i32)).toArray := by
  rw [runesFrom_chars s s.size 0 #[] (by omega)]
  simp [runesI, Function.comp_def]
theorem runesI_len (s : ByteArray) : (runesI s).length ≤ s.size := by
  have := charsAt_len (l := s.data.toList) (s.data.toList.length - 0) 0 rfl
  rw [str_len] at this
  unfold runesI; rw [List.length_map]; omega
theorem runesI_bound (s : ByteArray) {k : Nat} (h : k < (runesI s).length) : 0 ≤ ix (runesI s) k ∧ ix (runesI s) k ≤ 1114111 := by
  have hl : k < (charsAt s.data.toList 0).length := by simpa [runesI] using h
  have hc := (charsAt_get k 0 _ (List.getElem?_eq_getElem hl)).2.2.1
  have hx : ix (runesI s) k = ((charsAt s.data.toList 0)[k].r : Int) := by simp [ix, runesI, List.getD, hl]
  rw [hx, hc]
  have := chR_le s.data.toList ((charsAt s.data.toList 0)[k].at')
  exact ⟨by omega, by show ((chR _ _ : Nat) : Int) ≤ _; omega⟩
/-- []rune(s) -/
theorem conv_runes (s : ByteArray) (hs : s.size ≤ 4194304) : ∀ V : World, ∃ cap W, (convert 9 192 (.string s)).run Tryz.prog V = .ok (.slice (some ⟨V.heap.size, 0, none⟩) (runesI s).length cap) W ∧ Nums .i32 W (.slice (some ⟨V.heap.size, 0, none⟩) (runesI s).length cap) (runesI s) ∧ Old V W := fun V => by
  have hl := runesI_len s
  have hrun := run_runes_of_string (P := Tryz.prog) V 9 192 21 s Tryz.underlying9 Tryz.underlying192 Tryz.underlying21 (by rw [runes_all]; simp; omega)
  rw [runes_all] at hrun
  have hsz : ((runesI s).map (Value.int .i32)).toArray.size = (runesI s).length := by simp
  rw [hsz] at hrun
  refine ⟨_, _, hrun, Nums.mk (grownCap_ge V _ 0 21) ?_ ?_, (Old.refl V).drew.alloc _⟩
  · have := grownCap_le_maxLen V (runesI s).length 0 21 (by simp [maxLen]; omega)
    simpa [maxLen] using this
  · intro i hi
    rw [show (⟨V.heap.size, 0 + i, none⟩ : Addr) = ⟨V.drew.heap.size, i, none⟩ from by rw [Nat.zero_add]; rfl, World.cell?_alloc_mark]
    rw [Array.getElem?_append_left (by simpa using hi)]
    simp [ix, hi]
/-- two characters by a number that each has -/
def byF (f : Int → Int) (a b : Int) : Int := Lib.compareInt (f a) (f b)
set_option maxRecDepth 100000 in
set_option maxHeartbeats 3200000 in
theorem byRunes_small (a b : ByteArray) (w : World) (ha : a.size ≤ 4194304) (hb : b.size ≤ 4194304) :
    Calls Tryz.prog 92 #[.string a, .string b, .func (.func 93) #[] #[]] w fun e w' => e = .returned (.int .i64 (lexL (byF smallC) (runesI a) (runesI b))) ∧ Old w w' := by
  have hla := runesI_len a
  have hlb := runesI_len b
  have hba := Lib.hid (fun k => runesI_bound a (k := k))
  have hbb := Lib.hid (fun k => runesI_bound b (k := k))
  have CA := Lib.hid (conv_runes a ha)
  have CB := Lib.hid (conv_runes b hb)
  generalize runesI a = x at *
  generalize runesI b = y at *
  go_enter Tryz.func92, Tryz.ntmps92
  obtain ⟨cap1, w1, r1, hv1, ho1⟩ := CA.out w
  obtain ⟨cap2, w2, r2, hv2, ho2⟩ := CB.out w1
  generalize w.heap.size = g1 at *
  generalize w1.heap.size = g2 at *
  have Hv1 := Lib.hid (hv1.old ho2)
  have Hv2 := Lib.hid hv2
  clear hv1 hv2 CA CB
  go_upto_region 2 with fail
  go_cut [19, 20] from 15 to 20 (fun n j wx => n = .int .i64 (min x.length y.length : Nat) ∧ j = .int .i64 (0 : Nat) ∧ w2 = wx)
  case' first =>
    go_wp2_with fail
    all_goals
      go_meet
      refine ⟨congrArg (Value.int .i64) ?_, rfl, rfl⟩
      omega
  obtain ⟨rfl, rfl, rfl⟩ := hcut
  have hmx : min x.length y.length ≤ x.length := Nat.min_le_left _ _
  have hmy : min x.length y.length ≤ y.length := Nat.min_le_right _ _
  have Hend := Lib.hid (lexL_end (f := byF smallC) (x := x) (y := y) rfl)
  generalize min x.length y.length = n at *
  clear r1 r2
  go_wp2_with fail
  go_loopw [20] (fun j wr => ∃ k : Nat, k ≤ n ∧ j = .int .i64 k ∧ lexL (byF smallC) (x.drop k) (y.drop k) = lexL (byF smallC) x y ∧ Old w2 wr) (fun j _ => n - (intOf j).toNat)
  case atStart => exact ⟨0, Nat.zero_le _, rfl, rfl, Old.refl _⟩
  case round =>
    obtain ⟨k, hk, rfl, hat, ho⟩ := hrel
    have Hat := Lib.hid hat
    clear hat
    by_cases hlt : k < n
    · have hk1 : (k : Int) < n := by omega
      have hkx : (k : Int) < x.length := by omega
      have hky : (k : Int) < y.length := by omega
      have hkx' : k < x.length := by omega
      have hky' : k < y.length := by omega
      obtain ⟨_, _, b1, o1, e1, _, _, ha1, ht1⟩ := Hv1.out
      obtain ⟨rfl, _, rfl⟩ := Value.slice.inj e1
      obtain ⟨_, _, b2, o2, e2, _, _, ha2, ht2⟩ := Hv2.out
      obtain ⟨rfl, _, rfl⟩ := Value.slice.inj e2
      obtain ⟨rfl, rfl⟩ : g1 = b1 ∧ 0 = o1 := by simpa using ha1 (by omega)
      obtain ⟨rfl, rfl⟩ : g2 = b2 ∧ 0 = o2 := by simpa using ha2 (by omega)
      have k1 := fun V (o : Old wr V) => ht1 k hkx' V (ho.trans o)
      have k2 := fun V (o : Old wr V) => ht2 k hky' V (ho.trans o)
      rw [Nat.zero_add] at k1 k2
      obtain ⟨hp0, hp1⟩ := hba.out k hkx'
      obtain ⟨hq0, hq1⟩ := hbb.out k hky'
      have hxk : x[k]? = some (ix x k) := by simp [ix, hkx']
      have hyk : y[k]? = some (ix y k) := by simp [ix, hky']
      have hsplit : (byF smallC (ix x k) (ix y k) = 0 ∧ lexL (byF smallC) (x.drop k) (y.drop k) = lexL (byF smallC) (x.drop (k + 1)) (y.drop (k + 1))) ∨ (¬ byF smallC (ix x k) (ix y k) = 0 ∧ lexL (byF smallC) (x.drop k) (y.drop k) = byF smallC (ix x k) (ix y k)) := by
        by_cases h0 : byF smallC (ix x k) (ix y k) = 0
        · exact .inl ⟨h0, lexL_skip hxk hyk h0⟩
        · exact .inr ⟨h0, lexL_hit hxk hyk h0⟩
      clear hxk hyk ht1 ht2 ha1 ha2 e1 e2
      generalize ix x k = p at *
      generalize ix y k = q at *
      have Hc : Hid (byF smallC p q = Lib.compareInt (smallC p) (smallC q)) := rfl
      have Hf := Lib.hid (fun (W : OldW wr) => (Small_any p W.w' (by omega)).mono (fun e w' (h : _ ∧ W.w' = w') => (⟨h.1, h.2 ▸ Old.refl _⟩ : e = .returned (.int .i32 (smallC p)) ∧ Old W.w' w')))
      have Hg := Lib.hid (fun (W : OldW wr) => (Small_any q W.w' (by omega)).mono (fun e w' (h : _ ∧ W.w' = w') => (⟨h.1, h.2 ▸ Old.refl _⟩ : e = .returned (.int .i32 (smallC q)) ∧ Old W.w' w')))
      have Hh := Lib.hid (fun (W : OldW wr) => (Cmp32_any (smallC p) (smallC q) W.w').mono (fun e w' (h : _ ∧ w' = W.w') => (⟨h.1, h.2 ▸ Old.refl _⟩ : e = .returned (.int .i64 (Lib.compareInt (smallC p) (smallC q))) ∧ Old W.w' w')))
      rw [Hc.out] at hsplit
      generalize Lib.compareInt (smallC p) (smallC q) = c at *
      generalize smallC p = fp at *
      generalize smallC q = fq at *
      go_upto_region 5 with fail
      refine wp_region_old (Old.refl _) (by kernel_rfl) (by kernel_rfl) ?_
      repeat (go_big_quiet_step (first | with_reducible exact Calls.in_old (Hf.out _) | with_reducible exact Calls.in_old (Hg.out _) | with_reducible exact Calls.in_old (Hh.out _)))
      refine wpQuiet_nil ?_
      rintro ⟨wq, hq⟩
      dsimp only
      rcases hsplit with ⟨rfl, hs⟩ | ⟨hc, hs⟩
      · have Hs := Lib.hid hs
        clear hs
        go_wp2_with fail
        go_roundw
        case rel => exact ⟨k + 1, by omega, by go_num, by rw [← Hs.out]; exact Hat.out, ho.trans hq⟩
        case measure => simp [intOf]; omega
      · have Hs := Lib.hid hs
        have hcb : (c != 0) = true := by rw [bne_iff_ne]; exact hc
        clear hs hc
        go_wp2_with fail
        go_ret
        exact ⟨by rw [← Hat.out, Hs.out]; rfl, ((ho1.trans ho2).trans ho).trans hq⟩
    · obtain rfl : k = n := by omega
      have HC := Lib.hid (fun w => Tryz.cmp_Compare_int x.length y.length w)
      go_wp2_with (first | (go_at_call 137; refine (HC.out _).mono ?_; rintro e w1 ⟨rfl, rfl⟩))
      go_ret
      exact ⟨by rw [← Hat.out, Hend.out]; rfl, (ho1.trans ho2).trans ho⟩
theorem same_rune (r : Int) (w : World) (_ : -2147483648 ≤ r ∧ r ≤ 2147483647) : Calls Tryz.prog 94 #[.int .i32 r] w fun e w' => e = .returned (.int .i32 (id r)) ∧ w = w' := by

  go_enter Tryz.func94, Tryz.ntmps94
  go_wp2
  go_ret
  exact ⟨rfl, rfl⟩
set_option maxRecDepth 100000 in
set_option maxHeartbeats 3200000 in
theorem byRunes_same (a b : ByteArray) (w : World) (ha : a.size ≤ 4194304) (hb : b.size ≤ 4194304) :
    Calls Tryz.prog 92 #[.string a, .string b, .func (.func 94) #[] #[]] w fun e w' => e = .returned (.int .i64 (lexL (byF id) (runesI a) (runesI b))) ∧ Old w w' := by
  have hla := runesI_len a
  have hlb := runesI_len b
  have hba := Lib.hid (fun k => runesI_bound a (k := k))
  have hbb := Lib.hid (fun k => runesI_bound b (k := k))
  have CA := Lib.hid (conv_runes a ha)
  have CB := Lib.hid (conv_runes b hb)
  generalize runesI a = x at *
  generalize runesI b = y at *
  go_enter Tryz.func92, Tryz.ntmps92
  obtain ⟨cap1, w1, r1, hv1, ho1⟩ := CA.out w
  obtain ⟨cap2, w2, r2, hv2, ho2⟩ := CB.out w1
  generalize w.heap.size = g1 at *
  generalize w1.heap.size = g2 at *
  have Hv1 := Lib.hid (hv1.old ho2)
  have Hv2 := Lib.hid hv2
  clear hv1 hv2 CA CB
  go_upto_region 2 with fail
  go_cut [19, 20] from 15 to 20 (fun n j wx => n = .int .i64 (min x.length y.length : Nat) ∧ j = .int .i64 (0 : Nat) ∧ w2 = wx)
  case' first =>
    go_wp2_with fail
    all_goals
      go_meet
      refine ⟨congrArg (Value.int .i64) ?_, rfl, rfl⟩
      omega
  obtain ⟨rfl, rfl, rfl⟩ := hcut
  have hmx : min x.length y.length ≤ x.length := Nat.min_le_left _ _
  have hmy : min x.length y.length ≤ y.length := Nat.min_le_right _ _
  have Hend := Lib.hid (lexL_end (f := byF id) (x := x) (y := y) rfl)
  generalize min x.length y.length = n at *
  clear r1 r2
  go_wp2_with fail
  go_loopw [20] (fun j wr => ∃ k : Nat, k ≤ n ∧ j = .int .i64 k ∧ lexL (byF id) (x.drop k) (y.drop k) = lexL (byF id) x y ∧ Old w2 wr) (fun j _ => n - (intOf j).toNat)
  case atStart => exact ⟨0, Nat.zero_le _, rfl, rfl, Old.refl _⟩
  case round =>
    obtain ⟨k, hk, rfl, hat, ho⟩ := hrel
    have Hat := Lib.hid hat
    clear hat
    by_cases hlt : k < n
    · have hk1 : (k : Int) < n := by omega
      have hkx : (k : Int) < x.length := by omega
      have hky : (k : Int) < y.length := by omega
      have hkx' : k < x.length := by omega
      have hky' : k < y.length := by omega
      obtain ⟨_, _, b1, o1, e1, _, _, ha1, ht1⟩ := Hv1.out
      obtain ⟨rfl, _, rfl⟩ := Value.slice.inj e1
      obtain ⟨_, _, b2, o2, e2, _, _, ha2, ht2⟩ := Hv2.out
      obtain ⟨rfl, _, rfl⟩ := Value.slice.inj e2
      obtain ⟨rfl, rfl⟩ : g1 = b1 ∧ 0 = o1 := by simpa using ha1 (by omega)
      obtain ⟨rfl, rfl⟩ : g2 = b2 ∧ 0 = o2 := by simpa using ha2 (by omega)
      have k1 := fun V (o : Old wr V) => ht1 k hkx' V (ho.trans o)
      have k2 := fun V (o : Old wr V) => ht2 k hky' V (ho.trans o)
      rw [Nat.zero_add] at k1 k2
      obtain ⟨hp0, hp1⟩ := hba.out k hkx'
      obtain ⟨hq0, hq1⟩ := hbb.out k hky'
      have hxk : x[k]? = some (ix x k) := by simp [ix, hkx']
      have hyk : y[k]? = some (ix y k) := by simp [ix, hky']
      have hsplit : (byF id (ix x k) (ix y k) = 0 ∧ lexL (byF id) (x.drop k) (y.drop k) = lexL (byF id) (x.drop (k + 1)) (y.drop (k + 1))) ∨ (¬ byF id (ix x k) (ix y k) = 0 ∧ lexL (byF id) (x.drop k) (y.drop k) = byF id (ix x k) (ix y k)) := by
        by_cases h0 : byF id (ix x k) (ix y k) = 0
        · exact .inl ⟨h0, lexL_skip hxk hyk h0⟩
        · exact .inr ⟨h0, lexL_hit hxk hyk h0⟩
      clear hxk hyk ht1 ht2 ha1 ha2 e1 e2
      generalize ix x k = p at *
      generalize ix y k = q at *
      have Hc : Hid (byF id p q = Lib.compareInt (id p) (id q)) := rfl
      have Hf := Lib.hid (fun (W : OldW wr) => (same_rune p W.w' (by omega)).mono (fun e w' (h : _ ∧ W.w' = w') => (⟨h.1, h.2 ▸ Old.refl _⟩ : e = .returned (.int .i32 (id p)) ∧ Old W.w' w')))
      have Hg := Lib.hid (fun (W : OldW wr) => (same_rune q W.w' (by omega)).mono (fun e w' (h : _ ∧ W.w' = w') => (⟨h.1, h.2 ▸ Old.refl _⟩ : e = .returned (.int .i32 (id q)) ∧ Old W.w' w')))
      have Hh := Lib.hid (fun (W : OldW wr) => (Cmp32_any (id p) (id q) W.w').mono (fun e w' (h : _ ∧ w' = W.w') => (⟨h.1, h.2 ▸ Old.refl _⟩ : e = .returned (.int .i64 (Lib.compareInt (id p) (id q))) ∧ Old W.w' w')))
      rw [Hc.out] at hsplit
      generalize Lib.compareInt (id p) (id q) = c at *
      generalize id p = fp at *
      generalize id q = fq at *
      go_upto_region 5 with fail
      refine wp_region_old (Old.refl _) (by kernel_rfl) (by kernel_rfl) ?_
      repeat (go_big_quiet_step (first | with_reducible exact Calls.in_old (Hf.out _) | with_reducible exact Calls.in_old (Hg.out _) | with_reducible exact Calls.in_old (Hh.out _)))
      refine wpQuiet_nil ?_
      rintro ⟨wq, hq⟩
      dsimp only
      rcases hsplit with ⟨rfl, hs⟩ | ⟨hc, hs⟩
      · have Hs := Lib.hid hs
        clear hs
        go_wp2_with fail
        go_roundw
        case rel => exact ⟨k + 1, by omega, by go_num, by rw [← Hs.out]; exact Hat.out, ho.trans hq⟩
        case measure => simp [intOf]; omega
      · have Hs := Lib.hid hs
        have hcb : (c != 0) = true := by rw [bne_iff_ne]; exact hc
        clear hs hc
        go_wp2_with fail
        go_ret
        exact ⟨by rw [← Hat.out, Hs.out]; rfl, ((ho1.trans ho2).trans ho).trans hq⟩
    · obtain rfl : k = n := by omega
      have HC := Lib.hid (fun w => Tryz.cmp_Compare_int x.length y.length w)
      go_wp2_with (first | (go_at_call 137; refine (HC.out _).mono ?_; rintro e w1 ⟨rfl, rfl⟩))
      go_ret
      exact ⟨by rw [← Hat.out, Hend.out]; rfl, (ho1.trans ho2).trans ho⟩
end Go.Proofs.YtohngjkedhpikaaGreatDoor
