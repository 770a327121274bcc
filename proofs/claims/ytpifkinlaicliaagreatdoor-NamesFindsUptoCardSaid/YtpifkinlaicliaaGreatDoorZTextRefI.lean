/-
  TEXT, I: bounds of elements; the document's Compare; headings, the program's and the document's.
-/
import Derived.Test.YtpifkinlaicliaaGreatDoorZTextRefH
import Derived.Test.YtpifkinlaicliaaGreatDoorZTextRefG
namespace Go.Proofs.YtpifkinlaicliaaGreatDoor
open Go.RowKit
attribute [local go_sem] Old.refl Old.alloc Old.drew Old.setCell OldW.old

theorem elsGo_all {s : ByteArray} {Q : El → Prop} (h : ∀ p, p < s.size → ∀ x ∈ (elStep s p).1, Q x) : ∀ (d p : Nat) (t : List El), s.size - p = d → (∀ x ∈ t, Q x) → ∀ x ∈ elsGo s p t, Q x := by
  intro d
  induction d using Nat.strongRecOn with
  | _ d ih =>
    intro p t hd ht
    by_cases hp : p < s.size
    · have h1 := elStep_lt s p
      rw [elsGo_on hp]
      refine ih (s.size - (elStep s p).2) (by omega) _ _ rfl fun x hx => ?_
      rcases List.mem_append.1 hx with hx | hx
      · exact ht x hx
      · exact h p hp x hx
    · rw [elsGo_end hp]; exact ht
theorem charsAt_r {l : List UInt8} {p : Nat} {x : Chr} (h : x ∈ charsAt l p) : x.r ≤ 1114111 := by
  obtain ⟨i, hi, rfl⟩ := List.getElem_of_mem h
  have := (charsAt_get i p _ (List.getElem?_eq_getElem hi)).2.2.1
  rw [this]
  exact chR_le _ _
theorem trimN_size (s : ByteArray) (p q : Nat) : (trimN s p q).size ≤ s.size := by
  rw [trimN_eq, strB_size]
  unfold trimL Lib.trimLeftB
  have h1 := (List.dropWhile_suffix (fun x : UInt8 => x == 48) (l := (s.extract p q).data.toList)).length_le
  rw [str_len] at h1
  have h2 := extract_size (s := s) (p := p) (i := q)
  omega
theorem elsS_bound (s : ByteArray) : ∀ x ∈ elsS s, x.r ≤ 1114111 ∧ x.d.size ≤ s.size := by
  refine elsGo_all (fun p hp x hx => ?_) _ 0 [] rfl (by simp)
  unfold elStep at hx
  split at hx
  · obtain rfl : x = ⟨1, 0, _⟩ := by simpa using hx
    exact ⟨Nat.zero_le _, trimN_size s _ _⟩
  · dsimp only at hx
    split at hx
    · cases hx
    · unfold baseEls at hx
      obtain ⟨c, hc, rfl⟩ := List.mem_map.1 hx
      exact ⟨charsAt_r hc, Nat.zero_le _⟩
theorem orL_ne {x : Int} (h : ¬ x = 0) (r : List Int) : orL (x :: r) = x := if_neg h
theorem orL_zero (r : List Int) : orL (0 :: r) = orL r := if_pos rfl
theorem orL_one (x : Int) : orL [x] = x := by
  by_cases h : x = 0
  · rw [h, orL_zero]; rfl
  · exact orL_ne h _
set_option maxRecDepth 100000 in
set_option maxHeartbeats 6400000 in
theorem RCompare_any (a b : ByteArray) (w : World) (ha : a.size ≤ 4194304) (hb : b.size ≤ 4194304) :
    Calls Tryz.prog 31 #[.string a, .string b] w fun e w' => e = .returned (.int .i64 (compareT a b)) ∧ Old w w' := by
  have HE : Hid (compareT a b = orL [lexL cmpEl (elsS a) (elsS b), lexL (byF smallC) (rsC (charsAt a.data.toList 0)) (rsC (charsAt b.data.toList 0)), lexL (byF id) (rsC (charsAt a.data.toList 0)) (rsC (charsAt b.data.toList 0)), Lib.compareBytes a.data.toList b.data.toList]) := (compareT_eq a b).trans (allC_or a b).symm
  have HA := Lib.hid (RElements_any a w ha)
  have HB := Lib.hid (fun V => RElements_any b V hb)
  have Hbx := Lib.hid (elsS_bound a)
  have Hby := Lib.hid (elsS_bound b)
  have HCa := Lib.hid (fun V => Chars_any a V (by omega))
  have HCb := Lib.hid (fun V => Chars_any b V (by omega))
  have la := charsAt_len (l := a.data.toList) (a.data.toList.length - 0) 0 rfl
  have lb := charsAt_len (l := b.data.toList) (b.data.toList.length - 0) 0 rfl
  rw [str_len] at la lb
  have HS := Lib.hid (fun u v V hx hy => codes_small u v (charsAt a.data.toList 0) (charsAt b.data.toList 0) V hx hy (fun c h => charsAt_r h) (fun c h => charsAt_r h) (by omega) (by omega))
  have HI := Lib.hid (fun u v V hx hy => codes_same u v (charsAt a.data.toList 0) (charsAt b.data.toList 0) V hx hy (fun c h => charsAt_r h) (fun c h => charsAt_r h) (by omega) (by omega))
  have HY := Lib.hid (fun V => bytes_any a b V ha)
  clear la lb
  generalize elsS a = x at *
  generalize elsS b = y at *
  generalize charsAt a.data.toList 0 = ca at *
  generalize charsAt b.data.toList 0 = cb at *
  generalize lexL (byF smallC) (rsC ca) (rsC cb) = c2 at *
  generalize lexL (byF id) (rsC ca) (rsC cb) = c3 at *
  generalize Lib.compareBytes a.data.toList b.data.toList = c4 at *
  go_enter Tryz.func31, Tryz.ntmps31
  go_wp2_with fail
  refine HA.out.mono ?_
  rintro e w1 ⟨⟨v1, rfl, hv1⟩, ho1⟩
  go_wp2_with fail
  refine (HB.out _).mono ?_
  rintro e w2 ⟨⟨v2, rfl, hv2⟩, ho2⟩
  obtain ⟨a1, cap1, b1, off1, rfl, hc11, hc12, ha1, ht1⟩ := (hv1.recs.old ho2)
  obtain ⟨a2, cap2, b2, off2, rfl, hc21, hc22, ha2, ht2⟩ := hv2.recs
  have Ha1 := Lib.hid ha1
  have Ha2 := Lib.hid ha2
  have Ht1 := Lib.hid ht1
  have Ht2 := Lib.hid ht2
  have Hend := Lib.hid (lexL_end (f := cmpEl) (x := x) (y := y) rfl)
  clear ha1 ha2 ht1 ht2 hv1 hv2
  go_wp2_with fail
  go_loopw [7] (fun j wr => ∃ k : Nat, k ≤ x.length ∧ k ≤ y.length ∧ j = .int .i64 k ∧ lexL cmpEl (x.drop k) (y.drop k) = lexL cmpEl x y ∧ Old w2 wr) (fun j _ => x.length - (intOf j).toNat)
  case atStart => exact ⟨0, Nat.zero_le _, Nat.zero_le _, rfl, rfl, Old.refl _⟩
  case round =>
    obtain ⟨k, hkx, hky, rfl, hat, ho⟩ := hrel
    have Hat := Lib.hid hat
    clear hat
    by_cases hlt : k < x.length ∧ k < y.length
    · obtain ⟨hx1, hy1⟩ := hlt
      have d1 : decide ((k : Int) < x.length) = true := by simp; omega
      have d2 : decide ((k : Int) < y.length) = true := by simp; omega
      have hkx' : (k : Int) < x.length := by omega
      have hky' : (k : Int) < y.length := by omega
      obtain rfl := Ha1.out (by omega)
      obtain rfl := Ha2.out (by omega)
      obtain ⟨p, hp⟩ : ∃ p, x[k]? = some p := ⟨_, List.getElem?_eq_getElem hx1⟩
      obtain ⟨q, hq⟩ : ∃ q, y[k]? = some q := ⟨_, List.getElem?_eq_getElem hy1⟩
      have hpb := Hbx.out p (List.mem_of_getElem? hp)
      have hqb := Hby.out q (List.mem_of_getElem? hq)
      have K1 := Recs.three Ht1.out hp
      have K2 := Recs.three Ht2.out hq
      have k1 := fun V (o : Old wr V) => (K1 V (ho.trans o)).1
      have k2 := fun V (o : Old wr V) => (K1 V (ho.trans o)).2.1
      have k3 := fun V (o : Old wr V) => (K1 V (ho.trans o)).2.2
      have j1 := fun V (o : Old wr V) => (K2 V (ho.trans o)).1
      have j2 := fun V (o : Old wr V) => (K2 V (ho.trans o)).2.1
      have j3 := fun V (o : Old wr V) => (K2 V (ho.trans o)).2.2
      have Hc := Lib.hid (fun (W : OldW wr) => first_any p q W.w' (by omega) (by omega) (by omega))
      unfold elV at Hc
      have hsplit : (cmpEl p q = 0 ∧ lexL cmpEl (x.drop k) (y.drop k) = lexL cmpEl (x.drop (k + 1)) (y.drop (k + 1))) ∨ (¬ cmpEl p q = 0 ∧ lexL cmpEl (x.drop k) (y.drop k) = cmpEl p q) := by
        by_cases h0 : cmpEl p q = 0
        · exact .inl ⟨h0, lexL_skip hp hq h0⟩
        · exact .inr ⟨h0, lexL_hit hp hq h0⟩
      clear hp hq K1 K2 hpb hqb
      generalize cmpEl p q = c at *
      go_upto_region 5 with fail
      refine wp_region_old (Old.refl _) (by kernel_rfl) (by kernel_rfl) ?_
      repeat (go_big_quiet_step (exact Calls.in_old (Hc.out _)))
      refine wpQuiet_nil ?_
      rintro ⟨wq, hq⟩
      dsimp only
      rcases hsplit with ⟨rfl, hs⟩ | ⟨hc, hs⟩
      · have Hs := Lib.hid hs
        clear hs
        go_wp2_with fail
        go_roundw
        case rel => exact ⟨k + 1, by omega, by omega, by go_num, by rw [← Hs.out]; exact Hat.out, ho.trans hq⟩
        case measure => simp [intOf]; omega
      · have Hs := Lib.hid (show compareT a b = c from by rw [HE.out, ← Hat.out, hs, orL_ne hc])
        have hcb : (c != 0) = true := by rw [bne_iff_ne]; exact hc
        clear hs hc
        go_wp2_with fail
        go_ret
        exact ⟨by rw [Hs.out]; rfl, ((ho1.trans ho2).trans ho).trans hq⟩
    · have He : lexL cmpEl x y = Lib.compareInt x.length y.length := by
        have h := Hend.out
        rw [show min x.length y.length = k from by omega] at h
        rw [← Hat.out]; exact h
      have hoo : Old w wr := (ho1.trans ho2).trans ho
      have HG := Lib.hid (fun V => sign_any x.length y.length V)
      rw [He] at HE
      clear He
      generalize Lib.compareInt (x.length : Int) y.length = c1 at *
      have hd : (decide (k < x.length) = true ∧ decide (k < y.length) = false) ∨ decide (k < x.length) = false := by
        by_cases hlx : k < x.length
        · exact .inl ⟨by simp; omega, by simp; omega⟩
        · exact .inr (by simp; omega)
      clear hlt Hend Hat
      rcases hd with ⟨d1, d2⟩ | d1
      all_goals
        by_cases h1 : c1 = 0
        · subst h1
          rw [orL_zero] at HE
          go_wp2_with fail
          refine (HG.out _).mono ?_
          rintro e w3 ⟨rfl, rfl⟩
          go_wp2_with fail
          refine (HCa.out _).mono ?_
          rintro e w3 ⟨⟨v3, rfl, hv3⟩, ho3⟩
          go_wp2_with fail
          refine (HCb.out _).mono ?_
          rintro e w4 ⟨⟨v4, rfl, hv4⟩, ho4⟩
          go_wp2_with fail
          refine (HS.out _ _ _ (hv3.recs.old ho4) hv4.recs).mono ?_
          rintro e w5 ⟨rfl, ho5⟩
          have ho5' := (hoo.trans ho3).trans (ho4.trans ho5)
          clear hoo ho3 ho4 ho5 hv3 hv4
          by_cases h2 : c2 = 0
          · subst h2
            rw [orL_zero] at HE
            go_wp2_with fail
            refine (HCa.out _).mono ?_
            rintro e w6 ⟨⟨v6, rfl, hv6⟩, ho6⟩
            go_wp2_with fail
            refine (HCb.out _).mono ?_
            rintro e w7 ⟨⟨v7, rfl, hv7⟩, ho7⟩
            go_wp2_with fail
            refine (HI.out _ _ _ (hv6.recs.old ho7) hv7.recs).mono ?_
            rintro e w8 ⟨rfl, ho8⟩
            have ho8' := (ho5'.trans ho6).trans (ho7.trans ho8)
            clear ho5' ho6 ho7 ho8 hv6 hv7
            by_cases h3 : c3 = 0
            · subst h3
              rw [orL_zero, orL_one] at HE
              go_wp2_with fail
              refine (HY.out _).mono ?_
              rintro e w9 ⟨rfl, ho9⟩
              go_wp2_with fail
              go_ret
              exact ⟨by rw [HE.out]; rfl, ho8'.trans ho9⟩
            · have hb : (c3 != 0) = true := by rw [bne_iff_ne]; exact h3
              rw [orL_ne h3] at HE
              clear h3
              go_wp2_with fail
              go_ret
              exact ⟨by rw [HE.out]; rfl, ho8'⟩
          · have hb : (c2 != 0) = true := by rw [bne_iff_ne]; exact h2
            rw [orL_ne h2] at HE
            clear h2
            go_wp2_with fail
            go_ret
            exact ⟨by rw [HE.out]; rfl, ho5'⟩
        · have hb : (c1 != 0) = true := by rw [bne_iff_ne]; exact h1
          rw [orL_ne h1] at HE
          clear h1
          go_wp2_with fail
          refine (HG.out _).mono ?_
          rintro e w3 ⟨rfl, rfl⟩
          go_wp2_with fail
          go_ret
          exact ⟨by rw [HE.out]; rfl, hoo⟩
/-- under which heading a text of these elements stands -/
def groupE : List El → ByteArray
  | [] => ⟨#[42]⟩
  | e :: _ => if e.k = 1 then ⟨#[48]⟩ else if e.k = 0 then ⟨#[42]⟩ else if 97 ≤ e.r ∧ e.r ≤ 122 then Utf8.encode ((e.r : Int) - 32) else Utf8.encode e.r
end Go.Proofs.YtpifkinlaicliaaGreatDoor
