/-
  TEXT, COMPARE: lists in order; texts by their elements, by their characters.
-/
import Derived.Test.YtpifkinlaicliaaDoorZTextCompare
import Derived.Laws.IdiomStrings
namespace Go.Proofs.YtpifkinlaicliaaDoor
open Go.RowKit
attribute [local go_sem] Old.refl Old.alloc Old.drew Old.setCell OldW.old

/-- two lists, by their first unlike ones -/
def lexL {α : Type} (f : α → α → Int) : List α → List α → Int
  | [], [] => 0
  | [], _ :: _ => -1
  | _ :: _, [] => 1
  | a :: x, b :: y => if f a b = 0 then lexL f x y else f a b
theorem lexL_hit {α : Type} {f : α → α → Int} {x y : List α} {k : Nat} {a b : α} (hx : x[k]? = some a) (hy : y[k]? = some b) (h : ¬ f a b = 0) : lexL f (x.drop k) (y.drop k) = f a b := by
  rw [List.drop_eq_getElem_cons (List.getElem?_eq_some_iff.1 hx).1, List.drop_eq_getElem_cons (List.getElem?_eq_some_iff.1 hy).1, (List.getElem?_eq_some_iff.1 hx).2, (List.getElem?_eq_some_iff.1 hy).2, lexL, if_neg h]
theorem lexL_skip {α : Type} {f : α → α → Int} {x y : List α} {k : Nat} {a b : α} (hx : x[k]? = some a) (hy : y[k]? = some b) (h : f a b = 0) : lexL f (x.drop k) (y.drop k) = lexL f (x.drop (k + 1)) (y.drop (k + 1)) := by
  rw [List.drop_eq_getElem_cons (List.getElem?_eq_some_iff.1 hx).1, List.drop_eq_getElem_cons (List.getElem?_eq_some_iff.1 hy).1, (List.getElem?_eq_some_iff.1 hx).2, (List.getElem?_eq_some_iff.1 hy).2, lexL, if_pos h]
theorem lexL_end {α : Type} {f : α → α → Int} {x y : List α} {k : Nat} (h : k = min x.length y.length) : lexL f (x.drop k) (y.drop k) = Lib.compareInt x.length y.length := by
  unfold Lib.compareInt
  rcases Nat.lt_trichotomy x.length y.length with h1 | h1 | h1
  · rw [if_pos (by omega), List.drop_eq_nil_of_le (by omega), List.drop_eq_getElem_cons (by omega)]; rfl
  · rw [if_neg (by omega), if_neg (by omega), List.drop_eq_nil_of_le (by omega), List.drop_eq_nil_of_le (by omega)]; rfl
  · subst h; rw [if_neg (by omega), if_pos (by omega), (show y.drop (min x.length y.length) = [] from List.drop_eq_nil_of_le (by omega)), List.drop_eq_getElem_cons (by omega)]; rfl
/-- what a record's cells say in every later world -/
theorem Recs.three {w : World} {b off i : Nat} {t : List El} (ht : ∀ j u, (elE.all t)[j]? = some u → ∀ W, Old w W → W.cell? ⟨b, off + j, none⟩ = some u) {x : El} (hx : t[i]? = some x) :
    ∀ V, Old w V → V.cell? ⟨b, off + i * 3, none⟩ = some (.int .i64 x.k) ∧ V.cell? ⟨b, off + i * 3 + 1, none⟩ = some (.int .i32 x.r) ∧ V.cell? ⟨b, off + i * 3 + 2, none⟩ = some (.string x.d) := fun V o => by
  have h0 := ht (i * 3 + 0) _ (Enc.all_at (c := elE) (j := 0) hx rfl) V o
  have h1 := ht (i * 3 + 1) _ (Enc.all_at (c := elE) (j := 1) hx rfl) V o
  have h2 := ht (i * 3 + 2) _ (Enc.all_at (c := elE) (j := 2) hx rfl) V o
  rw [← Nat.add_assoc] at h1 h2
  exact ⟨h0, h1, h2⟩
set_option maxRecDepth 100000 in
set_option maxHeartbeats 3200000 in
theorem byElements_any (a b : ByteArray) (w : World) (hT : Tabs w) (ha : a.size ≤ 4194304) (hb : b.size ≤ 4194304) :
    Calls Tryd.prog 51 #[.string a, .string b] w fun e w' => e = .returned (.int .i64 (lexL cmpEl (elsS a) (elsS b))) ∧ Old w w' := by
  have HA := Lib.hid (elements_any a w hT ha)
  have HB := Lib.hid (fun V (o : Old w V) => elements_any b V (hT.old o) hb)
  generalize elsS a = x at *
  generalize elsS b = y at *
  go_enter Tryd.func51, Tryd.ntmps51
  go_wp2_with fail
  refine HA.out.mono ?_
  rintro e w1 ⟨⟨v1, rfl, hv1⟩, ho1⟩
  go_wp2_with fail
  refine (HB.out _ ho1).mono ?_
  rintro e w2 ⟨⟨v2, rfl, hv2⟩, ho2⟩
  obtain ⟨a1, cap1, b1, off1, rfl, hc11, hc12, ha1, ht1⟩ := (hv1.recs.old ho2)
  obtain ⟨a2, cap2, b2, off2, rfl, hc21, hc22, ha2, ht2⟩ := hv2.recs
  have Ha1 := Lib.hid ha1
  have Ha2 := Lib.hid ha2
  have Ht1 := Lib.hid ht1
  have Ht2 := Lib.hid ht2
  clear ha1 ha2 ht1 ht2 hv1 hv2
  go_upto_region 2 with fail
  go_cut [17, 18] from 13 to 18 (fun n j wx => n = .int .i64 (min x.length y.length : Nat) ∧ j = .int .i64 (0 : Nat) ∧ w2 = wx)
  case' first =>
    go_wp2_with fail
    all_goals
      go_meet
      refine ⟨congrArg (Value.int .i64) ?_, rfl, rfl⟩
      omega
  obtain ⟨rfl, rfl, rfl⟩ := hcut
  have hmx : min x.length y.length ≤ x.length := Nat.min_le_left _ _
  have hmy : min x.length y.length ≤ y.length := Nat.min_le_right _ _
  have Hend := Lib.hid (lexL_end (f := cmpEl) (x := x) (y := y) rfl)
  generalize min x.length y.length = n at *
  go_wp2_with fail
  go_loopw [18] (fun j wr => ∃ k : Nat, k ≤ n ∧ j = .int .i64 k ∧ lexL cmpEl (x.drop k) (y.drop k) = lexL cmpEl x y ∧ Old w2 wr) (fun j _ => n - (intOf j).toNat)
  case atStart => exact ⟨0, Nat.zero_le _, rfl, rfl, Old.refl _⟩
  case round =>
    obtain ⟨k, hk, rfl, hat, ho⟩ := hrel
    have Hat := Lib.hid hat
    clear hat
    by_cases hlt : k < n
    · have hk1 : (k : Int) < n := by omega
      have hkx : (k : Int) < x.length := by omega
      have hky : (k : Int) < y.length := by omega
      have hkx' : k < x.length := by omega
      have hky' : k < y.length := by omega
      obtain rfl := Ha1.out (by omega)
      obtain rfl := Ha2.out (by omega)
      obtain ⟨p, hp⟩ : ∃ p, x[k]? = some p := ⟨_, List.getElem?_eq_getElem (by omega)⟩
      obtain ⟨q, hq⟩ : ∃ q, y[k]? = some q := ⟨_, List.getElem?_eq_getElem (by omega)⟩
      have K1 := Recs.three Ht1.out hp
      have K2 := Recs.three Ht2.out hq
      have k1 := fun V (o : Old wr V) => (K1 V (ho.trans o)).1
      have k2 := fun V (o : Old wr V) => (K1 V (ho.trans o)).2.1
      have k3 := fun V (o : Old wr V) => (K1 V (ho.trans o)).2.2
      have j1 := fun V (o : Old wr V) => (K2 V (ho.trans o)).1
      have j2 := fun V (o : Old wr V) => (K2 V (ho.trans o)).2.1
      have j3 := fun V (o : Old wr V) => (K2 V (ho.trans o)).2.2
      have Hc := Lib.hid (fun (W : OldW wr) => compareElements_any p q W.w')
      unfold elV at Hc
      have hsplit : (cmpEl p q = 0 ∧ lexL cmpEl (x.drop k) (y.drop k) = lexL cmpEl (x.drop (k + 1)) (y.drop (k + 1))) ∨ (¬ cmpEl p q = 0 ∧ lexL cmpEl (x.drop k) (y.drop k) = cmpEl p q) := by
        by_cases h0 : cmpEl p q = 0
        · exact .inl ⟨h0, lexL_skip hp hq h0⟩
        · exact .inr ⟨h0, lexL_hit hp hq h0⟩
      clear hp hq K1 K2
      generalize cmpEl p q = c at *
      go_upto_region 5 with fail
      refine wp_region_old (Old.refl _) (by kernel_rfl) (by kernel_rfl) ?_
      repeat (go_big_quiet_step (exact Calls.in_old (Hc.out _)))
      refine wpQuiet_nil ?_
      rintro ⟨wq, hq⟩
      dsimp only
      rcases hsplit with ⟨rfl, hs⟩ | ⟨hc, hs⟩
      · have Hs := Lib.hid hs
        clear hs
        go_wp2_with fail
        go_roundw
        case rel => exact ⟨k + 1, by omega, by go_num, by rw [← Hs.out]; exact Hat.out, ho.trans hq⟩
        case measure => simp [intOf]; omega
      · have Hs := Lib.hid hs
        have hcb : (c != 0) = true := by rw [bne_iff_ne]; exact hc
        clear hs hc
        go_wp2_with fail
        go_ret
        exact ⟨by rw [← Hat.out, Hs.out]; rfl, ((ho1.trans ho2).trans ho).trans hq⟩
    · obtain rfl : k = n := by omega
      have HC := Lib.hid (fun w => Tryd.cmp_Compare_int x.length y.length w)
      go_wp2_with (first | (go_at_call 74; refine (HC.out _).mono ?_; rintro e w1 ⟨rfl, rfl⟩))
      go_ret
      exact ⟨by rw [← Hat.out, Hend.out]; rfl, (ho1.trans ho2).trans ho⟩
end Go.Proofs.YtpifkinlaicliaaDoor
