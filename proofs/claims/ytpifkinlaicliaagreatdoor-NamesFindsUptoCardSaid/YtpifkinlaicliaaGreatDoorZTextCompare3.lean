/-
  TEXT, COMPARE: texts by their characters; two texts.
-/
import Derived.Test.YtpifkinlaicliaaGreatDoorZTextCompare2
namespace Go.Proofs.YtpifkinlaicliaaGreatDoor
open Go.RowKit
attribute [local go_sem] Old.refl Old.alloc Old.drew Old.setCell OldW.old

/-- the characters' numbers -/
def runesI (s : ByteArray) : List Int := (charsAt s.data.toList 0).map (fun c => (c.r : Int))
theorem runesFrom_chars (s : ByteArray) : ∀ (bound i : Nat) (acc : Array Value), s.size - i ≤ bound → Conv.runesFrom s bound i acc = acc ++ ((charsAt s.data.toList i).map (fun c => Value.int .i32 (c.r : Int))).toArray
  | 0, i, acc, h => by
    rw [charsAt_end (by rw [str_len]; omega)]
    simp [Conv.runesFrom]
  | bound + 1, i, acc, h => by
    by_cases hlt : i < s.size
    · have h1 := chN_pos s.data.toList i
      have hd : Utf8.decode s i = (chR s.data.toList i, chN s.data.toList i) := by unfold chR chN; rw [Lib.decodeL_drop]
      rw [charsAt_on (by rw [str_len]; exact hlt)]
      unfold Conv.runesFrom
      rw [if_pos hlt, hd]
      dsimp only
      rw [runesFrom_chars s bound _ _ (by omega)]
      simp
    · rw [charsAt_end (by rw [str_len]; exact hlt)]
      unfold Conv.runesFrom
      rw [if_neg hlt]; simp
theorem runes_all (s : ByteArray) : Conv.runesFrom s s.size 0 #[] = ((runesI s).map (Value.int .i32)).toArray := by
  rw [runesFrom_chars s s.size 0 #[] (by omega)]
  simp [runesI, Function.comp_def]
theorem runesI_len (s : ByteArray) : (runesI s).length ≤ s.size := by
  have := charsAt_len (l := s.data.toList) (s.data.toList.length - 0) 0 rfl
  rw [str_len] at this
  unfold runesI; rw [List.length_map]; omega
theorem runesI_bound (s : ByteArray) {k : Nat} (h : k < (runesI s).length) : 0 ≤ ix (runesI s) k ∧ ix (runesI s) k ≤ 1114111 := by
  have hl : k < (charsAt s.data.toList 0).length := by simpa [runesI] using h
  have hc := (charsAt_get k 0 _ (List.getElem?_eq_getElem hl)).2.2.1
  have hx : ix (runesI s) k = ((charsAt s.data.toList 0)[k].r : Int) := by simp [ix, runesI, List.getD, hl]
  rw [hx, hc]
  have := chR_le s.data.toList ((charsAt s.data.toList 0)[k].at')
  exact ⟨by omega, by show ((chR _ _ : Nat) : Int) ≤ _; omega⟩
/-- []rune(s) -/
theorem conv_runes (s : ByteArray) (hs : s.size ≤ 4194304) : ∀ V : World, ∃ cap W, (convert 9 91 (.string s)).run Tryz.prog V = .ok (.slice (some ⟨V.heap.size, 0, none⟩) (runesI s).length cap) W ∧ Nums .i32 W (.slice (some ⟨V.heap.size, 0, none⟩) (runesI s).length cap) (runesI s) ∧ Old V W := fun V => by
  have hl := runesI_len s
  have hrun := run_runes_of_string (P := Tryz.prog) V 9 91 21 s Tryz.underlying9 Tryz.underlying91 Tryz.underlying21 (by rw [runes_all]; simp; omega)
  rw [runes_all] at hrun
  have hsz : ((runesI s).map (Value.int .i32)).toArray.size = (runesI s).length := by simp
  rw [hsz] at hrun
  refine ⟨_, _, hrun, Nums.mk (grownCap_ge V _ 0 21) ?_ ?_, (Old.refl V).drew.alloc _⟩
  · have := grownCap_le_maxLen V (runesI s).length 0 21 (by simp [maxLen]; omega)
    simpa [maxLen] using this
  · intro i hi
    rw [show (⟨V.heap.size, 0 + i, none⟩ : Addr) = ⟨V.drew.heap.size, i, none⟩ from by rw [Nat.zero_add]; rfl, World.cell?_alloc_mark]
    rw [Array.getElem?_append_left (by simpa using hi)]
    simp [ix, hi]
/-- two characters by a number that each has -/
def byF (f : Int → Int) (a b : Int) : Int := Lib.compareInt (f a) (f b)
set_option maxRecDepth 100000 in
set_option maxHeartbeats 3200000 in
theorem byRunes_small (a b : ByteArray) (w : World) (ha : a.size ≤ 4194304) (hb : b.size ≤ 4194304) :
    Calls Tryz.prog 49 #[.string a, .string b, .func (.func 50) #[] #[]] w fun e w' => e = .returned (.int .i64 (lexL (byF smallC) (runesI a) (runesI b))) ∧ Old w w' := by
  have hla := runesI_len a
  have hlb := runesI_len b
  have hba := Lib.hid (fun k => runesI_bound a (k := k))
  have hbb := Lib.hid (fun k => runesI_bound b (k := k))
  have CA := Lib.hid (conv_runes a ha)
  have CB := Lib.hid (conv_runes b hb)
  generalize runesI a = x at *
  generalize runesI b = y at *
  go_enter Tryz.func49, Tryz.ntmps49
  obtain ⟨cap1, w1, r1, hv1, ho1⟩ := CA.out w
  obtain ⟨cap2, w2, r2, hv2, ho2⟩ := CB.out w1
  generalize w.heap.size = g1 at *
  generalize w1.heap.size = g2 at *
  have Hv1 := Lib.hid (hv1.old ho2)
  have Hv2 := Lib.hid hv2
  clear hv1 hv2 CA CB
  go_upto_region 2 with fail
  go_cut [19, 20] from 15 to 20 (fun n j wx => n = .int .i64 (min x.length y.length : Nat) ∧ j = .int .i64 (0 : Nat) ∧ w2 = wx)
  case' first =>
    go_wp2_with fail
    all_goals
      go_meet
      refine ⟨congrArg (Value.int .i64) ?_, rfl, rfl⟩
      omega
  obtain ⟨rfl, rfl, rfl⟩ := hcut
  have hmx : min x.length y.length ≤ x.length := Nat.min_le_left _ _
  have hmy : min x.length y.length ≤ y.length := Nat.min_le_right _ _
  have Hend := Lib.hid (lexL_end (f := byF smallC) (x := x) (y := y) rfl)
  generalize min x.length y.length = n at *
  clear r1 r2
  go_wp2_with fail
  go_loopw [20] (fun j wr => ∃ k : Nat, k ≤ n ∧ j = .int .i64 k ∧ lexL (byF smallC) (x.drop k) (y.drop k) = lexL (byF smallC) x y ∧ Old w2 wr) (fun j _ => n - (intOf j).toNat)
  case atStart => exact ⟨0, Nat.zero_le _, rfl, rfl, Old.refl _⟩
  case round =>
    obtain ⟨k, hk, rfl, hat, ho⟩ := hrel
    have Hat := Lib.hid hat
    clear hat
    by_cases hlt : k < n
    · have hk1 : (k : Int) < n := by omega
      have hkx : (k : Int) < x.length := by omega
      have hky : (k : Int) < y.length := by omega
      have hkx' : k < x.length := by omega
      have hky' : k < y.length := by omega
      obtain ⟨_, _, b1, o1, e1, _, _, ha1, ht1⟩ := Hv1.out
      obtain ⟨rfl, _, rfl⟩ := Value.slice.inj e1
      obtain ⟨_, _, b2, o2, e2, _, _, ha2, ht2⟩ := Hv2.out
      obtain ⟨rfl, _, rfl⟩ := Value.slice.inj e2
      obtain ⟨rfl, rfl⟩ : g1 = b1 ∧ 0 = o1 := by simpa using ha1 (by omega)
      obtain ⟨rfl, rfl⟩ : g2 = b2 ∧ 0 = o2 := by simpa using ha2 (by omega)
      have k1 := fun V (o : Old wr V) => ht1 k hkx' V (ho.trans o)
      have k2 := fun V (o : Old wr V) => ht2 k hky' V (ho.trans o)
      rw [Nat.zero_add] at k1 k2
      obtain ⟨hp0, hp1⟩ := hba.out k hkx'
      obtain ⟨hq0, hq1⟩ := hbb.out k hky'
      have hxk : x[k]? = some (ix x k) := by simp [ix, hkx']
      have hyk : y[k]? = some (ix y k) := by simp [ix, hky']
      have hsplit : (byF smallC (ix x k) (ix y k) = 0 ∧ lexL (byF smallC) (x.drop k) (y.drop k) = lexL (byF smallC) (x.drop (k + 1)) (y.drop (k + 1))) ∨ (¬ byF smallC (ix x k) (ix y k) = 0 ∧ lexL (byF smallC) (x.drop k) (y.drop k) = byF smallC (ix x k) (ix y k)) := by
        by_cases h0 : byF smallC (ix x k) (ix y k) = 0
        · exact .inl ⟨h0, lexL_skip hxk hyk h0⟩
        · exact .inr ⟨h0, lexL_hit hxk hyk h0⟩
      clear hxk hyk ht1 ht2 ha1 ha2 e1 e2
      generalize ix x k = p at *
      generalize ix y k = q at *
      have Hc : Hid (byF smallC p q = Lib.compareInt (smallC p) (smallC q)) := rfl
      have Hf := Lib.hid (fun (W : OldW wr) => (Small_any p W.w' (by omega)).mono (fun e w' (h : _ ∧ W.w' = w') => (⟨h.1, h.2 ▸ Old.refl _⟩ : e = .returned (.int .i32 (smallC p)) ∧ Old W.w' w')))
      have Hg := Lib.hid (fun (W : OldW wr) => (Small_any q W.w' (by omega)).mono (fun e w' (h : _ ∧ W.w' = w') => (⟨h.1, h.2 ▸ Old.refl _⟩ : e = .returned (.int .i32 (smallC q)) ∧ Old W.w' w')))
      have Hh := Lib.hid (fun (W : OldW wr) => (Cmp32_any (smallC p) (smallC q) W.w').mono (fun e w' (h : _ ∧ w' = W.w') => (⟨h.1, h.2 ▸ Old.refl _⟩ : e = .returned (.int .i64 (Lib.compareInt (smallC p) (smallC q))) ∧ Old W.w' w')))
      rw [Hc.out] at hsplit
      generalize Lib.compareInt (smallC p) (smallC q) = c at *
      generalize smallC p = fp at *
      generalize smallC q = fq at *
      go_upto_region 5 with fail
      refine wp_region_old (Old.refl _) (by kernel_rfl) (by kernel_rfl) ?_
      repeat (go_big_quiet_step (first | with_reducible exact Calls.in_old (Hf.out _) | with_reducible exact Calls.in_old (Hg.out _) | with_reducible exact Calls.in_old (Hh.out _)))
      refine wpQuiet_nil ?_
      rintro ⟨wq, hq⟩
      dsimp only
      rcases hsplit with ⟨rfl, hs⟩ | ⟨hc, hs⟩
      · have Hs := Lib.hid hs
        clear hs
        go_wp2_with fail
        go_roundw
        case rel => exact ⟨k + 1, by omega, by go_num, by rw [← Hs.out]; exact Hat.out, ho.trans hq⟩
        case measure => simp [intOf]; omega
      · have Hs := Lib.hid hs
        have hcb : (c != 0) = true := by rw [bne_iff_ne]; exact hc
        clear hs hc
        go_wp2_with fail
        go_ret
        exact ⟨by rw [← Hat.out, Hs.out]; rfl, ((ho1.trans ho2).trans ho).trans hq⟩
    · obtain rfl : k = n := by omega
      have HC := Lib.hid (fun w => Tryz.cmp_Compare_int x.length y.length w)
      go_wp2_with (first | (go_at_call 84; refine (HC.out _).mono ?_; rintro e w1 ⟨rfl, rfl⟩))
      go_ret
      exact ⟨by rw [← Hat.out, Hend.out]; rfl, (ho1.trans ho2).trans ho⟩
theorem same_rune (r : Int) (w : World) (_ : -2147483648 ≤ r ∧ r ≤ 2147483647) : Calls Tryz.prog 51 #[.int .i32 r] w fun e w' => e = .returned (.int .i32 (id r)) ∧ w = w' := by

  go_enter Tryz.func51, Tryz.ntmps51
  go_wp2
  go_ret
  exact ⟨rfl, rfl⟩
set_option maxRecDepth 100000 in
set_option maxHeartbeats 3200000 in
theorem byRunes_same (a b : ByteArray) (w : World) (ha : a.size ≤ 4194304) (hb : b.size ≤ 4194304) :
    Calls Tryz.prog 49 #[.string a, .string b, .func (.func 51) #[] #[]] w fun e w' => e = .returned (.int .i64 (lexL (byF id) (runesI a) (runesI b))) ∧ Old w w' := by
  have hla := runesI_len a
  have hlb := runesI_len b
  have hba := Lib.hid (fun k => runesI_bound a (k := k))
  have hbb := Lib.hid (fun k => runesI_bound b (k := k))
  have CA := Lib.hid (conv_runes a ha)
  have CB := Lib.hid (conv_runes b hb)
  generalize runesI a = x at *
  generalize runesI b = y at *
  go_enter Tryz.func49, Tryz.ntmps49
  obtain ⟨cap1, w1, r1, hv1, ho1⟩ := CA.out w
  obtain ⟨cap2, w2, r2, hv2, ho2⟩ := CB.out w1
  generalize w.heap.size = g1 at *
  generalize w1.heap.size = g2 at *
  have Hv1 := Lib.hid (hv1.old ho2)
  have Hv2 := Lib.hid hv2
  clear hv1 hv2 CA CB
  go_upto_region 2 with fail
  go_cut [19, 20] from 15 to 20 (fun n j wx => n = .int .i64 (min x.length y.length : Nat) ∧ j = .int .i64 (0 : Nat) ∧ w2 = wx)
  case' first =>
    go_wp2_with fail
    all_goals
      go_meet
      refine ⟨congrArg (Value.int .i64) ?_, rfl, rfl⟩
      omega
  obtain ⟨rfl, rfl, rfl⟩ := hcut
  have hmx : min x.length y.length ≤ x.length := Nat.min_le_left _ _
  have hmy : min x.length y.length ≤ y.length := Nat.min_le_right _ _
  have Hend := Lib.hid (lexL_end (f := byF id) (x := x) (y := y) rfl)
  generalize min x.length y.length = n at *
  clear r1 r2
  go_wp2_with fail
  go_loopw [20] (fun j wr => ∃ k : Nat, k ≤ n ∧ j = .int .i64 k ∧ lexL (byF id) (x.drop k) (y.drop k) = lexL (byF id) x y ∧ Old w2 wr) (fun j _ => n - (intOf j).toNat)
  case atStart => exact ⟨0, Nat.zero_le _, rfl, rfl, Old.refl _⟩
  case round =>
    obtain ⟨k, hk, rfl, hat, ho⟩ := hrel
    have Hat := Lib.hid hat
    clear hat
    by_cases hlt : k < n
    · have hk1 : (k : Int) < n := by omega
      have hkx : (k : Int) < x.length := by omega
      have hky : (k : Int) < y.length := by omega
      have hkx' : k < x.length := by omega
      have hky' : k < y.length := by omega
      obtain ⟨_, _, b1, o1, e1, _, _, ha1, ht1⟩ := Hv1.out
      obtain ⟨rfl, _, rfl⟩ := Value.slice.inj e1
      obtain ⟨_, _, b2, o2, e2, _, _, ha2, ht2⟩ := Hv2.out
      obtain ⟨rfl, _, rfl⟩ := Value.slice.inj e2
      obtain ⟨rfl, rfl⟩ : g1 = b1 ∧ 0 = o1 := by simpa using ha1 (by omega)
      obtain ⟨rfl, rfl⟩ : g2 = b2 ∧ 0 = o2 := by simpa using ha2 (by omega)
      have k1 := fun V (o : Old wr V) => ht1 k hkx' V (ho.trans o)
      have k2 := fun V (o : Old wr V) => ht2 k hky' V (ho.trans o)
      rw [Nat.zero_add] at k1 k2
      obtain ⟨hp0, hp1⟩ := hba.out k hkx'
      obtain ⟨hq0, hq1⟩ := hbb.out k hky'
      have hxk : x[k]? = some (ix x k) := by simp [ix, hkx']
      have hyk : y[k]? = some (ix y k) := by simp [ix, hky']
      have hsplit : (byF id (ix x k) (ix y k) = 0 ∧ lexL (byF id) (x.drop k) (y.drop k) = lexL (byF id) (x.drop (k + 1)) (y.drop (k + 1))) ∨ (¬ byF id (ix x k) (ix y k) = 0 ∧ lexL (byF id) (x.drop k) (y.drop k) = byF id (ix x k) (ix y k)) := by
        by_cases h0 : byF id (ix x k) (ix y k) = 0
        · exact .inl ⟨h0, lexL_skip hxk hyk h0⟩
        · exact .inr ⟨h0, lexL_hit hxk hyk h0⟩
      clear hxk hyk ht1 ht2 ha1 ha2 e1 e2
      generalize ix x k = p at *
      generalize ix y k = q at *
      have Hc : Hid (byF id p q = Lib.compareInt (id p) (id q)) := rfl
      have Hf := Lib.hid (fun (W : OldW wr) => (same_rune p W.w' (by omega)).mono (fun e w' (h : _ ∧ W.w' = w') => (⟨h.1, h.2 ▸ Old.refl _⟩ : e = .returned (.int .i32 (id p)) ∧ Old W.w' w')))
      have Hg := Lib.hid (fun (W : OldW wr) => (same_rune q W.w' (by omega)).mono (fun e w' (h : _ ∧ W.w' = w') => (⟨h.1, h.2 ▸ Old.refl _⟩ : e = .returned (.int .i32 (id q)) ∧ Old W.w' w')))
      have Hh := Lib.hid (fun (W : OldW wr) => (Cmp32_any (id p) (id q) W.w').mono (fun e w' (h : _ ∧ w' = W.w') => (⟨h.1, h.2 ▸ Old.refl _⟩ : e = .returned (.int .i64 (Lib.compareInt (id p) (id q))) ∧ Old W.w' w')))
      rw [Hc.out] at hsplit
      generalize Lib.compareInt (id p) (id q) = c at *
      generalize id p = fp at *
      generalize id q = fq at *
      go_upto_region 5 with fail
      refine wp_region_old (Old.refl _) (by kernel_rfl) (by kernel_rfl) ?_
      repeat (go_big_quiet_step (first | with_reducible exact Calls.in_old (Hf.out _) | with_reducible exact Calls.in_old (Hg.out _) | with_reducible exact Calls.in_old (Hh.out _)))
      refine wpQuiet_nil ?_
      rintro ⟨wq, hq⟩
      dsimp only
      rcases hsplit with ⟨rfl, hs⟩ | ⟨hc, hs⟩
      · have Hs := Lib.hid hs
        clear hs
        go_wp2_with fail
        go_roundw
        case rel => exact ⟨k + 1, by omega, by go_num, by rw [← Hs.out]; exact Hat.out, ho.trans hq⟩
        case measure => simp [intOf]; omega
      · have Hs := Lib.hid hs
        have hcb : (c != 0) = true := by rw [bne_iff_ne]; exact hc
        clear hs hc
        go_wp2_with fail
        go_ret
        exact ⟨by rw [← Hat.out, Hs.out]; rfl, ((ho1.trans ho2).trans ho).trans hq⟩
    · obtain rfl : k = n := by omega
      have HC := Lib.hid (fun w => Tryz.cmp_Compare_int x.length y.length w)
      go_wp2_with (first | (go_at_call 84; refine (HC.out _).mono ?_; rintro e w1 ⟨rfl, rfl⟩))
      go_ret
      exact ⟨by rw [← Hat.out, Hend.out]; rfl, (ho1.trans ho2).trans ho⟩
end Go.Proofs.YtpifkinlaicliaaGreatDoor
