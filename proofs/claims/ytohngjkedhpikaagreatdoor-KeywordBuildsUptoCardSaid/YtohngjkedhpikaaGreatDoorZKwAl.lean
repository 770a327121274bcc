/-
  KEYWORD, QR: the document's rising.
-/
import Derived.Test.YtohngjkedhpikaaGreatDoorZMapsV
import Derived.Test.YtohngjkedhpikaaGreatDoorZTextWords
import Derived.Test.YtohngjkedhpikaaGreatDoorProg
import Derived.Test.YtohngjkedhpikaaGreatDoorZKwS
import Derived.Test.YtohngjkedhpikaaGreatDoorZKwQ
import Derived.Test.YtohngjkedhpikaaGreatDoorZKwH
namespace Go.Proofs.YtohngjkedhpikaaGreatDoor
open Go.RowKit
attribute [local go_sem] Old.refl Old.alloc Old.drew Old.setCell OldW.old

/-- the i-th is as it should be -/
def risAt (l : List Int) (many : Int) (i : Nat) (x : Int) : Prop := 0 ≤ x ∧ x < many ∧ ∀ (j : Nat) (y : Int), i = j + 1 → l[j]? = some y → y < x
/-- a Boolean that says whether p -/
def RetBK (e : Ending) (p : Prop) : Prop := ∃ r : Bool, e = .returned (.bool r) ∧ (r = true ↔ p)
set_option maxRecDepth 100000 in
set_option maxHeartbeats 1600000 in
theorem RRising_any (v : Value) (l : List Int) (many : Int) (w : World) (hv : Ints w v l) :
    Calls Tryz.prog 107 #[v, .int .i64 many] w fun e w' => RetBK e (risK l many) ∧ Old w w' := by
  obtain ⟨a, cap, b, off, rfl, hc1, hc2, ha, hat⟩ := hv
  have Ha := Lib.hid ha
  have Hat := Lib.hid hat
  clear ha hat
  go_enter Tryz.func107, Tryz.ntmps107
  go_wp2_with fail
  go_loopw [9] (fun j wr => ∃ (k : Nat), j = .int .i64 k ∧ k ≤ l.length ∧ (∀ (i : Nat) (x : Int), i < k → l[i]? = some x → risAt l many i x) ∧ Old w wr) (fun j _ => l.length - (intOf j).toNat)
  case atStart => exact ⟨0, rfl, Nat.zero_le _, fun i x hi => absurd hi (Nat.not_lt_zero i), Old.refl _⟩
  case round =>
    obtain ⟨k, rfl, hk, hno, ho⟩ := hrel
    have Hno := Lib.hid hno
    clear hno
    by_cases hlt : k < l.length
    · have hi : (k : Int) < l.length := by omega
      obtain ⟨x, hx⟩ : ∃ x, l[k]? = some x := ⟨_, List.getElem?_eq_getElem hlt⟩
      obtain rfl := Ha.out (by omega)
      have c0 := Hat.out k hlt wr ho
      rw [show ix l k = x from by unfold ix; simp [List.getD, hx]] at c0
      have Hx := Lib.hid hx
      have Hb : Hid (¬ risAt l many k x → ¬ risK l many) := Lib.hid fun h hr => h (hr k x hx)
      have Hg : Hid (risAt l many k x → ∀ (i : Nat) (y : Int), i < k + 1 → l[i]? = some y → risAt l many i y) := Lib.hid fun h i y hi hy => by
        rcases Nat.lt_or_ge i k with h2 | h2
        · exact Hno.out i y h2 hy
        · obtain rfl : i = k := by omega
          obtain rfl := Option.some.inj (hx.symm.trans hy)
          exact h
      clear hx
      by_cases h1 : x < 0
      · have Hbad : Hid (¬ risK l many) := Lib.hid (Hb.out fun h => by have := h.1; omega)
        clear Hb Hg
        go_wp2_with fail
        go_ret
        exact ⟨⟨false, rfl, by constructor
                               · intro h; cases h
                               · intro h; exact absurd h Hbad.out⟩, ho⟩
      · by_cases h2 : many ≤ x
        · have Hbad : Hid (¬ risK l many) := Lib.hid (Hb.out fun h => by have := h.2.1; omega)
          clear Hb Hg
          go_wp2_with fail
          go_ret
          exact ⟨⟨false, rfl, by constructor
                                 · intro h; cases h
                                 · intro h; exact absurd h Hbad.out⟩, ho⟩
        · cases k with
          | zero =>
            rw [Nat.add_zero] at c0
            have Hgood := Lib.hid (Hg.out ⟨by omega, by omega, fun j y e => by omega⟩)
            clear Hb Hg
            go_wp2_with fail
            go_roundw
            case rel => exact ⟨0 + 1, by go_num, by omega, Hgood.out, ho⟩
            case measure => simp [intOf]; omega
          | succ n =>
            obtain ⟨y, hy⟩ : ∃ y, l[n]? = some y := ⟨_, List.getElem?_eq_getElem (by omega)⟩
            have c1 := Hat.out n (by omega) wr ho
            rw [show ix l n = y from by unfold ix; simp [List.getD, hy]] at c1
            have hw1 : IntKind.i64.wrap (n : Int) = n := IntWalk.i64_in _ (by omega)
            have hw2 : IntKind.i64.wrap ((n : Int) + 1 - 1) = n := by rw [show (n : Int) + 1 - 1 = n from by omega]; exact hw1
            have hn0 : (0 : Int) ≤ n := by omega
            have hnl : (n : Int) < l.length := by omega
            have hn1 : (0 : Int) < (n : Int) + 1 := by omega
            by_cases h3 : x ≤ y
            · have Hbad : Hid (¬ risK l many) := Lib.hid (Hb.out fun h => by have := h.2.2 n y rfl hy; omega)
              clear Hb Hg hy
              go_wp2_with fail
              go_ret
              exact ⟨⟨false, rfl, by constructor
                                     · intro h; cases h
                                     · intro h; exact absurd h Hbad.out⟩, ho⟩
            · have Hgood := Lib.hid (Hg.out ⟨by omega, by omega, fun j z e hz => by
                obtain rfl : n = j := by omega
                obtain rfl := Option.some.inj (hy.symm.trans hz)
                omega⟩)
              clear Hb Hg hy
              go_wp2_with fail
              go_roundw
              case rel => exact ⟨n + 1 + 1, by go_num, by omega, Hgood.out, ho⟩
              case measure => simp [intOf]; omega
    · obtain rfl : k = l.length := by omega
      have hi : ¬ (l.length : Int) < l.length := by omega
      have Hall : Hid (risK l many) := Lib.hid fun i x hx => Hno.out i x (List.getElem?_eq_some_iff.1 hx).1 hx
      go_wp2_with fail
      go_ret
      exact ⟨⟨true, rfl, by simpa using Hall.out⟩, ho⟩
end Go.Proofs.YtohngjkedhpikaaGreatDoor
/-
  KEYWORD, AL: what is wrong with an entry by itself.
-/




namespace Go.Proofs.YtohngjkedhpikaaGreatDoor
open Go.RowKit Go.Maps
attribute [local go_sem] Old.refl Old.alloc Old.drew Old.setCell OldW.old

theorem MemoN.old {w W : World} {b n : Nat} (h : MemoN w b n) (o : Old w W) : MemoN W b n := by obtain ⟨F, h⟩ := h; exact ⟨F, h.old o⟩
theorem aloneK_term {e : En} {t : Int} (h : ¬ (mayT e.term = true ∧ (e.sub = noB ∨ mayT e.sub = true))) : aloneK e t = 90 := by unfold aloneK; rw [if_pos h]
theorem aloneK_see {e : En} {t : Int} (h : mayT e.term = true ∧ (e.sub = noB ∨ mayT e.sub = true)) (h2 : ¬ ∀ s ∈ e.sees, mayT s = true) : aloneK e t = 90 := by unfold aloneK; rw [if_neg (fun k => k h), if_pos h2]
theorem aloneK_rise {e : En} {t : Int} (h : mayT e.term = true ∧ (e.sub = noB ∨ mayT e.sub = true)) (h2 : ∀ s ∈ e.sees, mayT s = true) (h3 : ¬ risK e.topics t) : aloneK e t = 1 := by unfold aloneK; rw [if_neg (fun k => k h), if_neg (fun k => k h2), if_pos h3]
theorem aloneK_none {e : En} {t : Int} (h : mayT e.term = true ∧ (e.sub = noB ∨ mayT e.sub = true)) (h2 : ∀ s ∈ e.sees, mayT s = true) (h3 : risK e.topics t) (h4 : e.topics.length + e.sees.length = 0 ∨ (¬ e.sub = noB ∧ ¬ e.sees = [])) : aloneK e t = 1 := by unfold aloneK; rw [if_neg (fun k => k h), if_neg (fun k => k h2), if_neg (fun k => k h3), if_pos h4]
theorem aloneK_ord {e : En} {t : Int} (h : mayT e.term = true ∧ (e.sub = noB ∨ mayT e.sub = true)) (h2 : ∀ s ∈ e.sees, mayT s = true) (h3 : risK e.topics t) (h4 : ¬ (e.topics.length + e.sees.length = 0 ∨ (¬ e.sub = noB ∧ ¬ e.sees = []))) (h5 : ¬ ordK e.sees) : aloneK e t = 1 := by unfold aloneK; rw [if_neg (fun k => k h), if_neg (fun k => k h2), if_neg (fun k => k h3), if_neg h4, if_pos h5]
theorem aloneK_ok {e : En} {t : Int} (h : mayT e.term = true ∧ (e.sub = noB ∨ mayT e.sub = true)) (h2 : ∀ s ∈ e.sees, mayT s = true) (h3 : risK e.topics t) (h4 : ¬ (e.topics.length + e.sees.length = 0 ∨ (¬ e.sub = noB ∧ ¬ e.sees = []))) (h5 : ordK e.sees) : aloneK e t = 0 := by unfold aloneK; rw [if_neg (fun k => k h), if_neg (fun k => k h2), if_neg (fun k => k h3), if_neg h4, if_neg (fun k => k h5)]
set_option maxRecDepth 100000 in
set_option maxHeartbeats 3200000 in
theorem alone_any (e : En) (a2 a3 : Option Addr) (c2 c3 : Nat) (topics : Int) (w0 w : World) (fb n : Nat) (h2 : Ints w0 (.slice a2 e.topics.length c2) e.topics) (h3 : Txts w0 (.slice a3 e.sees.length c3) e.sees) (ho : Old w0 w) (hT : Tabs w0) (hb : w0.heap.size ≤ fb) (hM : MemoN w fb n) (hn : n ≤ 1000000000000) (hl : e.sees.length ≤ 1000000 ∧ e.topics.length ≤ 1000000)
    (hs1 : e.term.size ≤ 4194304) (hs2 : e.sub.size ≤ 4194304) (hs3 : ∀ s ∈ e.sees, s.size ≤ 4194304 ∧ (foldS s).size ≤ 4194304) :
    Calls Tryz.prog 54 #[.agg #[.string e.term, .string e.sub, .slice a2 e.topics.length c2, .slice a3 e.sees.length c3], .int .i64 topics, .map (some fb)] w fun e' w' => e' = .returned (.int .i64 (aloneK e topics)) ∧ MemoN w' fb (n + 2 * e.sees.length) ∧ OldBut fb w w' := by
  obtain ⟨z, hz⟩ : ∃ z, aloneK e topics = z := ⟨_, rfl⟩
  rw [hz]
  have Hz := Lib.hid hz
  obtain ⟨a2', cap2, b2, o2, e2, hcc1, hcc2, ha2, hat2⟩ := h2
  obtain ⟨rfl, _, rfl⟩ := Value.slice.inj e2
  obtain ⟨b3, o3, ha3, hat3⟩ := h3.at1
  have hsee : ¬ e.sees = [] ↔ 0 < e.sees.length := by rw [List.length_pos_iff]
  obtain ⟨hl1, hl2⟩ := hl
  obtain ⟨et, es, etp, ess⟩ := e
  dsimp only at *
  have HM1 := Lib.hid (fun V (o : Old w0 V) => mayTerm_any et V (hT.old o) hs1)
  have HM2 := Lib.hid (fun V (o : Old w0 V) => maySub_any es V (hT.old o) hs2)
  have Ha2 := Lib.hid ha2
  have Ha3 := Lib.hid ha3
  have Hat2 := Lib.hid hat2
  have Hat3 := Lib.hid hat3
  have Hs3 := Lib.hid hs3
  have HT := Lib.hid hT
  have HM := Lib.hid hM
  have Hsee := Lib.hid hsee
  have hfl := hM.lt
  clear hz ha2 ha3 hat2 hat3 hs3 hT hM h3 hsee
  go_enter Tryz.func54, Tryz.ntmps54
  go_upto_region 1 with fail
  have h9 := heap_alloc_new w (.cells #[.string et, .string es, .slice a2 etp.length c2, .slice a3 ess.length c3] 45)
  have oA : Old w (w.alloc (.cells #[.string et, .string es, .slice a2 etp.length c2, .slice a3 ess.length c3] 45)) := (Old.refl w).alloc _
  change Code.wp _ _ _ _ (w.alloc (.cells #[.string et, .string es, .slice a2 etp.length c2, .slice a3 ess.length c3] 45))
  generalize w.alloc (.cells #[.string et, .string es, .slice a2 etp.length c2, .slice a3 ess.length c3] 45) = wA at *
  obtain ⟨g9, hg9⟩ : ∃ x, w.heap.size = x := ⟨_, rfl⟩
  rw [hg9] at h9 ⊢
  have hgf : Hid (g9 ≠ fb) := Lib.hid (by omega)
  have H9 := Lib.hid h9
  have HoA := Lib.hid oA
  have d0 := later (show wA.cell? ⟨g9, 0, none⟩ = some (.string et) from cells_at (i := 0) h9 rfl)
  have d1 := later (show wA.cell? ⟨g9, 1, none⟩ = some (.string es) from cells_at (i := 1) h9 rfl)
  have d2 := later (show wA.cell? ⟨g9, 2, none⟩ = some (.slice a2 etp.length c2) from cells_at (i := 2) h9 rfl)
  have d3 := later (show wA.cell? ⟨g9, 3, none⟩ = some (.slice a3 ess.length c3) from cells_at (i := 3) h9 rfl)
  have ho0A := ho.trans oA
  clear h9 oA hg9 hfl
  by_cases b1 : mayT et = false
  · have Hr := Lib.hid (Hz.out.symm.trans (aloneK_term (fun h => by have := h.1; rw [b1] at this; cases this)))
    rw [b1] at HM1
    clear b1 HM2
    go_wp2_with (go_at_call 84; refine (HM1.out _ ho0A).mono ?_; rintro e' w2 ⟨rfl, ot2⟩)
    go_ret
    exact ⟨by rw [Hr.out]; rfl, (MemoN.old HM.out (HoA.out.trans ot2)).mono (by omega), (OldBut.refl fb w).old (HoA.out.trans ot2)⟩
  · have hb1 : mayT et = true := by simpa using b1
    rw [hb1] at HM1
    by_cases b2 : (decide (es = noB) || mayT es) = false
    · have Hr := Lib.hid (Hz.out.symm.trans (aloneK_term (fun h => by
        rw [Bool.or_eq_false_iff, decide_eq_false_iff_not] at b2
        rcases h.2 with k | k
        · exact b2.1 k
        · dsimp only at k; rw [b2.2] at k; cases k)))
      rw [b2] at HM2
      clear b1 b2 hb1
      go_wp2_with (first
        | (go_at_call 84; refine (HM1.out _ ho0A).mono ?_; rintro e' w2 ⟨rfl, ot2⟩)
        | (go_at_call 86; refine (HM2.out _ (ho0A.trans ot2)).mono ?_; rintro e' w3 ⟨rfl, ot3⟩))
      go_ret
      exact ⟨by rw [Hr.out]; rfl, (MemoN.old HM.out (HoA.out.trans (ot2.trans ot3))).mono (by omega), (OldBut.refl fb w).old (HoA.out.trans (ot2.trans ot3))⟩
    · have hb2 : (decide (es = noB) || mayT es) = true := by rw [Bool.not_eq_false] at b2; exact b2
      have Hok : Hid (mayT et = true ∧ (es = noB ∨ mayT es = true)) := Lib.hid ⟨hb1, by simpa using hb2⟩
      rw [hb2] at HM2
      clear b1 b2 hb1 hb2
      go_wp2_with (first
        | (go_at_call 84; refine (HM1.out _ ho0A).mono ?_; rintro e' w2 ⟨rfl, ot2⟩)
        | (go_at_call 86; refine (HM2.out _ (ho0A.trans ot2)).mono ?_; rintro e' w3 ⟨rfl, ot3⟩; have oA3 := ot2.trans ot3))
      clear HM1 HM2
      go_loopw [25] (fun j wr => ∃ k : Nat, j = .int .i64 k ∧ k ≤ ess.length ∧ (∀ (i : Nat) (s : ByteArray), i < k → ess[i]? = some s → mayT s = true) ∧ Old wA wr) (fun j _ => ess.length - (intOf j).toNat)
      case atStart => exact ⟨0, rfl, Nat.zero_le _, fun i s hi => absurd hi (Nat.not_lt_zero i), oA3⟩
      case round =>
        clear ot2 ot3 oA3
        obtain ⟨k, rfl, hk, hno, hoR⟩ := hrel
        have Hno := Lib.hid hno
        clear hno
        by_cases hlt : k < ess.length
        · have hi : (k : Int) < ess.length := by omega
          obtain ⟨s, hs⟩ : ∃ s, ess[k]? = some s := ⟨_, List.getElem?_eq_getElem hlt⟩
          obtain rfl := Ha3.out (by omega)
          have hor := ho0A.trans hoR
          have ck : ∀ V, Old wr V → V.cell? ⟨b3, o3 + k, none⟩ = some (.string s) := fun V o => Hat3.out k s hs V (hor.trans o)
          have HMs := Lib.hid (mayTerm_any s wr (HT.out.old hor) (Hs3.out s (List.mem_of_getElem? hs)).1)
          have Hs := Lib.hid hs
          clear hs
          by_cases hm : mayT s = false
          · have Hr := Lib.hid (Hz.out.symm.trans (aloneK_see Hok.out (fun h => by
              have := h s (List.mem_of_getElem? Hs.out)
              rw [hm] at this; cases this)))
            rw [hm] at HMs
            clear hm
            go_wp2_with (go_at_call 84; refine HMs.out.mono ?_; rintro e' w4 ⟨rfl, ot4⟩)
            go_ret
            exact ⟨by rw [Hr.out]; rfl, (MemoN.old HM.out (HoA.out.trans (hoR.trans ot4))).mono (by omega), (OldBut.refl fb w).old (HoA.out.trans (hoR.trans ot4))⟩
          · have hm1 : mayT s = true := by simpa using hm
            have Hg : Hid (∀ (i : Nat) (x : ByteArray), i < k + 1 → ess[i]? = some x → mayT x = true) := Lib.hid fun i x hi hx => by
              rcases Nat.lt_or_ge i k with h | h
              · exact Hno.out i x h hx
              · obtain rfl : i = k := by omega
                obtain rfl := Option.some.inj (Hs.out.symm.trans hx)
                exact hm1
            rw [hm1] at HMs
            clear hm hm1
            go_wp2_with (go_at_call 84; refine HMs.out.mono ?_; rintro e' w4 ⟨rfl, ot4⟩)
            go_roundw
            case rel => exact ⟨k + 1, by go_num, by omega, Hg.out, hoR.trans ot4⟩
            case measure => simp [intOf]; omega
        · obtain rfl : k = ess.length := by omega
          have hi : ¬ (ess.length : Int) < ess.length := by omega
          have Hall : Hid (∀ s ∈ ess, mayT s = true) := Lib.hid fun s hs => by
            obtain ⟨j, hj⟩ := List.getElem?_of_mem hs
            exact Hno.out j s (List.getElem?_eq_some_iff.1 hj).1 hj
          clear Hno
          have Hcount : Hid (∀ k, z = k → z = k) := Lib.hid fun _ h => h
          go_wp2_with fail
          go_loopw [36] (fun j wr => ∃ k : Nat, j = .int .i64 k ∧ k ≤ etp.length ∧ (∀ (i : Nat) (x : Int), i < k → etp[i]? = some x → risAt etp topics i x) ∧ Old wA wr) (fun j _ => etp.length - (intOf j).toNat)
          case atStart => exact ⟨0, rfl, Nat.zero_le _, fun i s hi => absurd hi (Nat.not_lt_zero i), hoR⟩
          case round =>
            clear hoR
            obtain ⟨k, rfl, hk, hno, hoR⟩ := hrel
            have Hno := Lib.hid hno
            clear hno
            have hor := ho0A.trans hoR
            have Hret : Hid (z = 1 → (Ending.returned (.int .i64 1) = .returned (.int .i64 z) ∧ MemoN wr fb (n + 2 * ess.length) ∧ OldBut fb w wr)) := Lib.hid fun h => ⟨by rw [h], (MemoN.old HM.out (HoA.out.trans hoR)).mono (by omega), (OldBut.refl fb w).old (HoA.out.trans hoR)⟩
            by_cases hlt : k < etp.length
            · have hi : (k : Int) < etp.length := by omega
              obtain ⟨x, hx⟩ : ∃ x, etp[k]? = some x := ⟨_, List.getElem?_eq_getElem hlt⟩
              obtain rfl := Ha2.out (by omega)
              have c0 := Hat2.out k hlt wr hor
              rw [show ix etp k = x from by unfold ix; simp [List.getD, hx]] at c0
              have Hx := Lib.hid hx
              have Hb : Hid (¬ risAt etp topics k x → z = 1) := Lib.hid fun h => Hz.out.symm.trans (aloneK_rise Hok.out Hall.out fun hr => h (hr k x hx))
              have Hg : Hid (risAt etp topics k x → ∀ (i : Nat) (y : Int), i < k + 1 → etp[i]? = some y → risAt etp topics i y) := Lib.hid fun h i y hi hy => by
                rcases Nat.lt_or_ge i k with h2 | h2
                · exact Hno.out i y h2 hy
                · obtain rfl : i = k := by omega
                  obtain rfl := Option.some.inj (hx.symm.trans hy)
                  exact h
              clear hx
              by_cases h1 : x < 0
              · have Hbad := Lib.hid (Hret.out (Hb.out fun h => by have := h.1; omega))
                clear Hb Hg Hret
                go_wp2_with fail
                go_ret
                exact Hbad.out
              · by_cases h2 : topics ≤ x
                · have Hbad := Lib.hid (Hret.out (Hb.out fun h => by have := h.2.1; omega))
                  clear Hb Hg Hret
                  go_wp2_with fail
                  go_ret
                  exact Hbad.out
                · cases k with
                  | zero =>
                    rw [Nat.add_zero] at c0
                    have Hgood := Lib.hid (Hg.out ⟨by omega, by omega, fun j y e => by omega⟩)
                    clear Hb Hg Hret
                    go_wp2_with fail
                    go_roundw
                    case rel => exact ⟨0 + 1, by go_num, by omega, Hgood.out, hoR⟩
                    case measure => simp [intOf]; omega
                  | succ m =>
                    obtain ⟨y, hy⟩ : ∃ y, etp[m]? = some y := ⟨_, List.getElem?_eq_getElem (by omega)⟩
                    have c1 := Hat2.out m (by omega) wr hor
                    rw [show ix etp m = y from by unfold ix; simp [List.getD, hy]] at c1
                    have hw1 : IntKind.i64.wrap (m : Int) = m := IntWalk.i64_in _ (by omega)
                    have hw2 : IntKind.i64.wrap ((m : Int) + 1 - 1) = m := by rw [show (m : Int) + 1 - 1 = m from by omega]; exact hw1
                    have hn0 : (0 : Int) ≤ m := by omega
                    have hnl : (m : Int) < etp.length := by omega
                    have hn1 : (0 : Int) < (m : Int) + 1 := by omega
                    by_cases h3 : x ≤ y
                    · have Hbad := Lib.hid (Hret.out (Hb.out fun h => by have := h.2.2 m y rfl hy; omega))
                      clear Hb Hg hy Hret
                      go_wp2_with fail
                      go_ret
                      exact Hbad.out
                    · have Hgood := Lib.hid (Hg.out ⟨by omega, by omega, fun j u e hu => by
                        obtain rfl : m = j := by omega
                        obtain rfl := Option.some.inj (hy.symm.trans hu)
                        omega⟩)
                      clear Hb Hg hy Hret
                      go_wp2_with fail
                      go_roundw
                      case rel => exact ⟨m + 1 + 1, by go_num, by omega, Hgood.out, hoR⟩
                      case measure => simp [intOf]; omega
            · obtain rfl : k = etp.length := by omega
              have hi : ¬ (etp.length : Int) < etp.length := by omega
              have Hris : Hid (risK etp topics) := Lib.hid fun i x hx => Hno.out i x (List.getElem?_eq_some_iff.1 hx).1 hx
              clear Hno
              have D1 := later (show wr.cell? ⟨g9, 1, none⟩ = some (.string es) from d1 _ hoR)
              have D2 := later (show wr.cell? ⟨g9, 2, none⟩ = some (.slice a2 etp.length c2) from d2 _ hoR)
              have D3 := later (show wr.cell? ⟨g9, 3, none⟩ = some (.slice a3 ess.length c3) from d3 _ hoR)
              have hwr : IntKind.i64.wrap ((etp.length : Int) + ess.length) = etp.length + ess.length := IntWalk.i64_in _ (by omega)
              go_upto_region 15 with fail
              go_cut [81] (fun t wy => (∃ r : Bool, t = .bool r ∧ (r = true ↔ (etp.length + ess.length = 0 ∨ (¬ es = noB ∧ 0 < ess.length)))) ∧ wr = wy)
              case first =>
                by_cases h0 : etp.length + ess.length = 0
                · have h01 : (etp.length : Int) + ess.length = 0 := by omega
                  have H0 := Lib.hid h0
                  clear h0
                  go_wp2_with fail
                  go_meet
                  exact ⟨⟨true, rfl, by simp [H0.out]⟩, rfl⟩
                · have h01 : ¬ (etp.length : Int) + ess.length = 0 := by omega
                  have hbq : ((etp.length : Int) + ess.length == 0) = false := by simpa using h01
                  by_cases hes : es = noB
                  · have Hes := Lib.hid hes
                    have H0 := Lib.hid h0
                    have hes1 : es.toList.isEmpty = true := by rw [hes, ByteArray.toList_eq]; rfl
                    clear h0 hes
                    go_wp2_with fail
                    all_goals
                      go_meet
                      exact ⟨⟨false, rfl, by
                        simp only [Bool.false_eq_true, false_iff]
                        rintro (h | h)
                        · exact H0.out h
                        · exact h.1 Hes.out⟩, rfl⟩
                  · have hn' := str_nilK hes
                    have Hes := Lib.hid hes
                    have H0 := Lib.hid h0
                    by_cases hse : 0 < ess.length
                    · have hse1 : (0 : Int) < ess.length := by omega
                      have Hse := Lib.hid hse
                      clear h0 hes hse
                      go_wp2_with fail
                      go_meet
                      exact ⟨⟨_, rfl, by
                        rw [decide_eq_true_eq]
                        exact ⟨fun _ => .inr ⟨Hes.out, Hse.out⟩, fun _ => by have := Hse.out; omega⟩⟩, rfl⟩
                    · have hse1 : ¬ (0 : Int) < ess.length := by omega
                      have Hse := Lib.hid hse
                      clear h0 hes hse
                      go_wp2_with fail
                      go_meet
                      exact ⟨⟨_, rfl, by
                        rw [decide_eq_true_eq]
                        exact ⟨fun h => absurd (show 0 < ess.length by omega) Hse.out, fun h => by
                          rcases h with h | h
                          · exact absurd h H0.out
                          · exact absurd h.2 Hse.out⟩⟩, rfl⟩
              case rest =>
                obtain ⟨⟨r, rfl, hr⟩, rfl⟩ := hcut
                have Hr := Lib.hid hr
                clear hr
                cases r with
                | true =>
                  have Hbad := Lib.hid (Hret.out (Hz.out.symm.trans (aloneK_none Hok.out Hall.out Hris.out (by
                    rcases Hr.out.1 rfl with h | h
                    · exact .inl h
                    · exact .inr ⟨h.1, Hsee.out.2 h.2⟩))))
                  clear Hret
                  go_wp2_with fail
                  go_ret
                  exact Hbad.out
                | false =>
                  have Hno4 : Hid (¬ (etp.length + ess.length = 0 ∨ (¬ es = noB ∧ ¬ ess = []))) := Lib.hid fun h => by
                    have : false = true := Hr.out.2 (h.elim .inl fun h => .inr ⟨h.1, Hsee.out.1 h.2⟩)
                    cases this
                  clear Hret D1 D2 d0 d1 d2 d3
                  have H9r := Lib.hid (obj_old H9.out hoR)
                  have HMr := Lib.hid (MemoN.old HM.out (HoA.out.trans hoR))
                  have HLr := Lib.hid ((OldBut.refl fb w).old (HoA.out.trans hoR))
                  go_wp2_with fail
                  go_loopw [11] (fun j wx => ∃ (k n' : Nat), j = .int .i64 ((k : Int) + 1) ∧ k ≤ ess.length ∧ n' ≤ n + 2 * k ∧ MemoN wx fb n' ∧ (∀ (i : Nat) (x y : ByteArray), i < k → ess[i]? = some x → ess[i + 1]? = some y → cmpS x y < 0) ∧ wx.heap[g9]? = some (.cells #[.string et, .string es, .slice a2 etp.length c2, .slice a3 ess.length c3] 45 (0, 0)) ∧ OldBut fb w wx) (fun j _ => ess.length + 1 - (intOf j).toNat)
                  case atStart => exact ⟨0, n, rfl, Nat.zero_le _, Nat.le_refl _, HMr.out, fun i x y hi => absurd hi (Nat.not_lt_zero i), H9r.out, HLr.out⟩
                  case round =>
                    clear D3 H9r HMr HLr
                    obtain ⟨k, n', rfl, hk, hn', hMm, hno, h9, hLO⟩ := hrel
                    have Hno := Lib.hid hno
                    have H9 := Lib.hid h9
                    have HMm := Lib.hid hMm
                    have HLO := Lib.hid hLO
                    have t3 := later (show wr.cell? ⟨g9, 3, none⟩ = some (.slice a3 ess.length c3) from cells_at (i := 3) h9 rfl)
                    clear hno h9 hMm
                    by_cases hlt : k + 1 < ess.length
                    · have hi : (k : Int) + 1 < ess.length := by omega
                      obtain ⟨x, hx⟩ : ∃ x, ess[k]? = some x := ⟨_, List.getElem?_eq_getElem (by omega)⟩
                      obtain ⟨y, hy⟩ : ∃ y, ess[k + 1]? = some y := ⟨_, List.getElem?_eq_getElem hlt⟩
                      obtain rfl := Ha3.out (by omega)
                      have ho0 := HLO.out.base ho hb
                      have t1 := fun V (o : Old wr V) => Hat3.out k x hx V (ho0.trans o)
                      have t2 := fun V (o : Old wr V) => Hat3.out (k + 1) y hy V (ho0.trans o)
                      obtain ⟨s1, s2⟩ := Hs3.out x (List.mem_of_getElem? hx)
                      obtain ⟨s3, s4⟩ := Hs3.out y (List.mem_of_getElem? hy)
                      have hw1 : IntKind.i64.wrap (k : Int) = k := IntWalk.i64_in _ (by omega)
                      have hw2 : IntKind.i64.wrap ((k : Int) + 1 - 1) = k := by rw [show (k : Int) + 1 - 1 = k from by omega]; exact hw1
                      have hn0 : (0 : Int) ≤ k := by omega
                      have hn1 : (k : Int) < ess.length := by omega
                      have hn2 : (0 : Int) ≤ (k : Int) + 1 := by omega
                      have Hb : Hid (¬ compareT (foldS x) (foldS y) < 0 → z = 1) := Lib.hid fun h => Hz.out.symm.trans (aloneK_ord Hok.out Hall.out Hris.out Hno4.out fun hr => h (hr k x y hx hy))
                      have Hg : Hid (compareT (foldS x) (foldS y) < 0 → ∀ (i : Nat) (u z : ByteArray), i < k + 1 → ess[i]? = some u → ess[i + 1]? = some z → cmpS u z < 0) := Lib.hid fun h i u z hi hu hz => by
                        rcases Nat.lt_or_ge i k with h2 | h2
                        · exact Hno.out i u z h2 hu hz
                        · obtain rfl : i = k := by omega
                          obtain rfl := Option.some.inj (hx.symm.trans hu)
                          obtain rfl := Option.some.inj (hy.symm.trans hz)
                          exact h
                      obtain ⟨F, hF⟩ := HMm.out
                      have HC1 := Lib.hid (of_any x w0 wr.drew fb n' F ho0.drew HT.out (hF.old (Old.refl wr).drew) (by omega) s1)
                      have HC2 := Lib.hid (fun (V : World) (F2 : ByteArray → Option ByteArray) (o : Old w0 V) (h : Memo V fb (n' + 1) F2) => of_any y w0 V fb (n' + 1) F2 o HT.out h (by omega) s3)
                      have HC3 := Lib.hid (fun (V : World) (o : Old w0 V) => Compare_any (foldS x) (foldS y) V (HT.out.old o) s2 s4)
                      have T1 := Lib.hid (fun V (o : Old w0 V) => Hat3.out k x hx V o)
                      have T2 := Lib.hid (fun V (o : Old w0 V) => Hat3.out (k + 1) y hy V o)
                      have HLd := Lib.hid (HLO.out.drew)
                      clear hx hy hF
                      generalize compareT (foldS x) (foldS y) = c at *
                      go_upto_region 20 with fail
                      go_cut [105] (fun t wy => (∃ q : Bool, t = .bool q ∧ (q = true ↔ 0 ≤ c)) ∧ MemoN wy fb (n' + 2) ∧ wy.heap[g9]? = some (.cells #[.string et, .string es, .slice a2 etp.length c2, .slice (some ⟨b3, o3, none⟩) ess.length c3] 45 (0, 0)) ∧ OldBut fb w wy)
                      case first =>
                        go_region_held3 (fun w' => w'.cell? ⟨g9, 3, none⟩ = some (.slice (some ⟨b3, o3, none⟩) ess.length c3) ∧ w'.cell? ⟨b3, o3 + k, none⟩ = some (.string x) ∧ w'.cell? ⟨b3, o3 + (k + 1), none⟩ = some (.string y)) (first
                          | exact ⟨t3 _ (Old.refl _).drew, t1 _ (Old.refl _).drew, t2 _ (Old.refl _).drew⟩
                          | exact ⟨r3, r1, r2⟩
                          | exact ⟨q3, q1, q2⟩
                          | exact ⟨p3, p1, p2⟩
                          | fail) (first
                          | (go_at_call 48; (with_reducible refine HC1.out.mono ?_); rintro e' w4 ⟨rfl, ⟨F4, hM4, _, _⟩, o4⟩; have H94 := Lib.hid (obj_but (obj_old H9.out (Old.refl _).drew) o4 hgf.out); have HL4 := Lib.hid (HLd.out.trans o4); have hb4 := HL4.out.base ho hb; have r3 : w4.cell? ⟨g9, 3, none⟩ = some (.slice (some ⟨b3, o3, none⟩) ess.length c3) := cells_at (i := 3) H94.out rfl; have r1 := T1.out _ hb4; have r2 := T2.out _ hb4; have HM4 := Lib.hid hM4; clear hM4 o4)
                          | (go_at_call 48; (with_reducible refine (HC2.out _ _ hb4 HM4.out).mono ?_); rintro e' w5 ⟨rfl, ⟨F5, hM5, _, _⟩, o5⟩; have H95 := Lib.hid (obj_but H94.out o5 hgf.out); have HL5 := Lib.hid (HL4.out.trans o5); have hb5 := HL5.out.base ho hb; have q3 : w5.cell? ⟨g9, 3, none⟩ = some (.slice (some ⟨b3, o3, none⟩) ess.length c3) := cells_at (i := 3) H95.out rfl; have q1 := T1.out _ hb5; have q2 := T2.out _ hb5; have HM5 := Lib.hid hM5; clear hM5 o5)
                          | (go_at_call 47; (with_reducible refine (HC3.out _ hb5).mono ?_); rintro e' w6 ⟨rfl, o6⟩; have H96 := Lib.hid (obj_old H95.out o6); have HL6 := Lib.hid (HL5.out.old o6); have hb6 := HL6.out.base ho hb; have p3 : w6.cell? ⟨g9, 3, none⟩ = some (.slice (some ⟨b3, o3, none⟩) ess.length c3) := cells_at (i := 3) H96.out rfl; have p1 := T1.out _ hb6; have p2 := T2.out _ hb6; have HM6 := Lib.hid (HM5.out.old o6); clear o6)
                          | fail)
                        all_goals (try go_wp2_with fail)
                        go_meet
                        exact ⟨⟨_, rfl, by rw [decide_eq_true_eq]⟩, ⟨_, HM6.out⟩, H96.out, HL6.out⟩
                      case rest =>
                        obtain ⟨⟨q, rfl, hq⟩, hM7, h97, hL7⟩ := hcut
                        have Hq := Lib.hid hq
                        have HM7 := Lib.hid hM7
                        have H97 := Lib.hid h97
                        have HL7 := Lib.hid hL7
                        clear hq hM7 h97 hL7
                        cases q with
                        | true =>
                          have Hbad := Lib.hid (Hb.out (by have := Hq.out.1 rfl; omega))
                          clear Hb Hg
                          go_wp2_with fail
                          go_ret
                          exact ⟨by rw [Hbad.out]; rfl, MemoN.mono HM7.out (by omega), HL7.out⟩
                        | false =>
                          have Hgood := Lib.hid (Hg.out (by
                            by_cases h : 0 ≤ c
                            · have := Hq.out.2 h; cases this
                            · omega))
                          clear Hb Hg
                          go_wp2_with fail
                          go_roundw
                          case rel => exact ⟨k + 1, n' + 2, by go_num, by omega, by omega, HM7.out, Hgood.out, H97.out, HL7.out⟩
                          case measure => simp [intOf]; omega
                    · have hi : ¬ (k : Int) + 1 < ess.length := by omega
                      have Hord := Lib.hid (Hz.out.symm.trans (aloneK_ok Hok.out Hall.out Hris.out Hno4.out fun i x y hx hy => Hno.out i x y (by have := (List.getElem?_eq_some_iff.1 hy).1; dsimp only at this; omega) hx hy))
                      clear Hno
                      go_wp2_with fail
                      go_ret
                      exact ⟨by rw [Hord.out]; rfl, MemoN.mono HMm.out (by omega), HLO.out⟩
end Go.Proofs.YtohngjkedhpikaaGreatDoor
