/-
  WALKS K: the reference's Shown.
-/
import Derived.Test.YtigpjfebnppejaaTocWalksJ
namespace Go.Proofs.Ytigpjfebnppejaa
open Go.RowKit Go.Maps
attribute [local go_sem] Old.refl Old.alloc Old.drew Old.setCell OldW.old

theorem infoBool : (Try.prog.info? 4).map (fun i => (i.zero, i.size, i.bytes)) = some (some (.bool false), 1, 1) := by kernel_rfl
set_option maxRecDepth 100000 in
set_option maxHeartbeats 2000000 in
theorem rShown_any (t : List (Int × Int)) (o : List Int) (v u : Value) (w : World) (hT : Prs w v t) (hO : Ints w u o) :
    Calls Try.prog 33 #[v, u] w fun e w' => RetIntsE w' (shownT t o).1 (shownT t o).2 e ∧ Old w w' := by
  have hT' := Lib.hid hT
  obtain ⟨a, cap, rfl, hn1, hn2⟩ := hT.form
  obtain ⟨ao, capo, bo, offo, rfl, hm1, hm2, hao, hc⟩ := hO
  clear hT
  by_cases hg : goodE t = 0
  · have hg1 : (goodE t != 0) = false := by simp [hg]
    have Hg := Lib.hid hg
    have HG := Lib.hid ((goodE_zero t).1 hg)
    have Hl := HG.out.len
    clear hg
    go_enter Try.func33, Try.ntmps33
    go_wp2_with (first
      | (go_at_call 10; refine (rgood_any t _ _ hT'.out).mono ?_; rintro e w1 ⟨rfl, ho1⟩; have hs1 := ho1.size)
      | (at_make; refine wpList_make_bools (w0 := w) rfl _ _ 84 rfl 4 Try.underlying84 infoBool t.length rfl rfl (by omega) ho1 ?_; intro w2 hownU ho2 hs2; have hold2 := ho1.trans ho2))
    go_loopw [8] (fun j wr => ∃ k : Nat, k ≤ o.length ∧ j = .int .i64 k ∧ OwnB 4 w wr (.slice (some ⟨w1.heap.size, 0, none⟩) t.length t.length) (tabB t.length (unfF t o k)) ∧ Old w wr ∧ w1.heap.size < wr.heap.size) (fun j _ => o.length - (intOf j).toNat)
    case atStart => exact ⟨0, by omega, rfl, by rw [tabB_congr (fun k _ => unfF_zero t o k), ← tabB_zero]; exact hownU, hold2, hs2⟩
    case round =>
      obtain ⟨k, hk, rfl, hU, hold, hsz⟩ := hrel
      by_cases hlt : k < o.length
      · obtain rfl := hao (by omega)
        have hck := hc k hlt
        have Hat := Lib.hid (fun (W : World) (h : Old w W) => rat_any t (ix o k) _ W (hT'.out.old h))
        rcases atFrom_cases t (ix o k) 0 with ⟨h1, _⟩ | ⟨m, h1, _, hmt, _, _⟩
        · have H1 := Lib.hid h1
          clear h1
          go_wp2_with (go_at_call 48; refine (Hat.out _ hold).mono ?_; rw [H1.out]; rintro e w2 ⟨rfl, ho2⟩; have hs2 := ho2.size)
          go_roundw
          case rel => exact ⟨k + 1, by omega, by go_num, by rw [← tabB_congr (fun j hj => unfF_miss hlt H1.out j hj)]; exact hU.old ho2, hold.trans ho2, by omega⟩
          case measure => simp [intOf]; omega
        · have H1 := Lib.hid h1
          clear h1
          go_wp2_with (go_at_call 48; refine (Hat.out _ hold).mono ?_; rw [H1.out]; rintro e w2 ⟨rfl, ho2⟩; have hs2 := ho2.size; have hU2 := hU.old ho2; have hc2 := hU2.cell (k := m) (by rw [tabB_length]; omega); have hf2 := hU2.frozen m; have hold2 := hold.trans ho2)
          have hU3 := hU2.stored m true
          rw [tabB_set, tabB_congr (fun j hj => HG.out.unfF_hit hlt H1.out j hj)] at hU3
          go_roundw
          case rel => exact ⟨k + 1, by omega, by go_num, hU3, hold2.setCell (p := ⟨w1.heap.size, m, none⟩) hs1 _, by rw [World.size_setCell]; omega⟩
          case measure => simp [intOf]; omega
      · obtain rfl : k = o.length := by omega
        obtain ⟨wm, rfl⟩ : ∃ wo : World, wo = wr := ⟨_, rfl⟩
        clear hc hao
        go_wp2_with (at_make; refine wpList_make_bools (w0 := w) rfl _ _ 84 rfl 4 Try.underlying84 infoBool t.length rfl rfl (by omega) hold ?_; intro w3 hown ho3 hs3)
        have hold3 := hold.trans ho3
        have hU3 := hU.old ho3
        have hsm := hold.size
        go_loopw [11, 12] (fun l j wr => ∃ i : Nat, i ≤ t.length ∧ j = .int .i64 i ∧ OwnB 4 w wr (.slice (some ⟨wm.heap.size, 0, none⟩) t.length t.length) (tabB t.length (seenR t o i)) ∧
          OwnB 4 w wr (.slice (some ⟨w1.heap.size, 0, none⟩) t.length t.length) (tabB t.length (unfF t o o.length)) ∧ OwnI 3 w3 wr l (shTo t o i) ∧ Old w wr ∧ w3.heap.size ≤ wr.heap.size) (fun _ j _ => t.length - (intOf j).toNat)
        case atStart => exact ⟨0, by omega, rfl, by rw [tabB_congr (fun k _ => seenR_zero t o k), ← tabB_zero]; exact hown, hU3, OwnI.nil _ _ _, hold3, Nat.le_refl _⟩
        case round =>
          obtain ⟨i, hi, rfl, hS, hU, hL, hold4, hsz4⟩ := hrel
          have hll := shTo_len t o i
          by_cases hlt' : i < t.length
          · have hlev := HG.out.lev i hlt'
            have Hpar := Lib.hid (fun (W : World) (h : Old w W) => above_any t (i : Int) i _ W (hT'.out.old h) hlt' rfl hlev.1 hlev.2.1)
            clear hlev
            obtain ⟨al, cl, rfl, _, _⟩ := ownsRow_form hL
            have key : (par t i = -1 ∧ shB t o i = true) ∨ (∃ j : Nat, par t i = (j : Int) ∧ j < i ∧ shB t o j = true ∧ hasB o (p0 t j) = true ∧ shB t o i = true) ∨
                (∃ j : Nat, par t i = (j : Int) ∧ j < i ∧ shB t o j = true ∧ hasB o (p0 t j) = false ∧ shB t o i = false) ∨ (∃ j : Nat, par t i = (j : Int) ∧ j < i ∧ shB t o j = false ∧ shB t o i = false) := by
              rcases par_cases t i with h | ⟨j, h, hj⟩
              · exact .inl ⟨h, shB_root (by omega)⟩
              · have e := shB_deep (o := o) h
                by_cases h1 : shB t o j = true
                · by_cases h2 : hasB o (p0 t j) = true
                  · exact .inr (.inl ⟨j, h, hj, h1, h2, by rw [e, h1, h2]; rfl⟩)
                  · have h2' : hasB o (p0 t j) = false := by simpa using h2
                    exact .inr (.inr (.inl ⟨j, h, hj, h1, h2', by rw [e, h1, h2']; rfl⟩))
                · have h1' : shB t o j = false := by simpa using h1
                  exact .inr (.inr (.inr ⟨j, h, hj, h1', by rw [e, h1']; rfl⟩))
            have Hnotg : ∀ g, g < w3.heap.size → some g ≠ (Value.slice al (shTo t o i).length cl).ownBlock := fun g hgl e => by
              have := (World.ownsRow.lt hL g e.symm).1
              omega
            rcases key with ⟨hp, hsh⟩ | ⟨j, hp, hji, hsj, hoj, hsh⟩ | ⟨j, hp, hji, hsj, hoj, hsh⟩ | ⟨j, hp, hji, hsj, hsh⟩
            · have Hp := Lib.hid hp
              have Hsh := Lib.hid hsh
              clear hp hsh
              go_wp2_with (first
                | (go_at_call 49; refine (Hpar.out _ hold4).mono ?_; rw [Hp.out]; rintro e w5 ⟨rfl, ho5⟩; have hS5 := hS.old ho5; have hc5 := hS5.cell (k := i) (by rw [tabB_length]; omega); have hf5 := hS5.frozen i; have hU5 := hU.old ho5; have hL5 := hL.old ho5; have hold5 := hold4.trans ho5; have hs5 := ho5.size; have hL6 : OwnI 3 w3 (w5.setCell ⟨wm.heap.size, i, none⟩ (.bool true)) (.slice al (shTo t o i).length cl) (shTo t o i) := hL5.kept (grownBy_set _ _ _ _) (.inr (fun e => Hnotg wm.heap.size hs3 e.symm)))
                | (at_builtin; refine wpList_append_int1 (w0 := w3) rfl _ _ 25 rfl 3 Try.underlying25 infoInt _ (shTo t o i) rfl (hL6.alloc _) _ (i : Int) rfl (by simp [go_sem]) (by omega) (by simp; omega) ?_; intro v6 w6 hown6 hg6; obtain ⟨g6, cap6, rfl, _, _⟩ := ownsRow_form hown6))
              have hS6 := hS5.stored i true
              rw [tabB_set, tabB_congr (g := seenR t o (i + 1)) (fun k _ => by have := seenR_next t o i k; rw [Hsh.out] at this; exact this)] at hS6
              have hS7 := (hS6.alloc (.cells #[.int .i64 (i : Int)] 3)).kept hg6 (.inr (Hnotg _ hs3))
              have hU7 := ((hU5.setCell_other (g := wm.heap.size) (o := i) (.bool true) (fun x hx => by cases hx; show w1.heap.size ≠ wm.heap.size; omega)).alloc (.cells #[.int .i64 (i : Int)] 3)).kept hg6 (.inr (Hnotg w1.heap.size (by omega)))
              have hold7 : Old w w6 := ((hold5.setCell (p := ⟨wm.heap.size, i, none⟩) hsm _).alloc _).grown hg6 (fun k e => by have := (World.ownsRow.lt hL k e).1; omega)
              have hs7 := hg6.size
              have hl7 : (shTo t o i ++ [(i : Int)]).length = (shTo t o i).length + 1 := by simp
              rw [hl7, ← shTo_yes Hsh.out] at hown6
              simp only [World.size_alloc, World.size_setCell] at hs7
              go_roundw
              case rel => exact ⟨i + 1, by omega, by go_num, hS7, hU7, hown6, hold7, by omega⟩
              case measure => simp [intOf]; omega
            · have Hp := Lib.hid hp
              have Hsh := Lib.hid hsh
              have Hsj := Lib.hid hsj
              have Hoj := Lib.hid hoj
              clear hp hsh hsj hoj
              go_wp2_with (first
                | (go_at_call 49; refine (Hpar.out _ hold4).mono ?_; rw [Hp.out]; rintro e w5 ⟨rfl, ho5⟩; have hS5 := hS.old ho5; have hc5 := hS5.cell (k := i) (by rw [tabB_length]; omega); have hf5 := hS5.frozen i; have hU5 := hU.old ho5; have hL5 := hL.old ho5; have hold5 := hold4.trans ho5; have hs5 := ho5.size; have hr5 := hS5.cell (k := j) (by rw [tabB_length]; omega); rw [bx_tab (by omega), seenR_at hji, Hsj.out] at hr5; have hu5 := hU5.cell (k := j) (by rw [tabB_length]; omega); rw [bx_tab (by omega), unfF_all, Hoj.out] at hu5; have hL6 : OwnI 3 w3 (w5.setCell ⟨wm.heap.size, i, none⟩ (.bool true)) (.slice al (shTo t o i).length cl) (shTo t o i) := hL5.kept (grownBy_set _ _ _ _) (.inr (fun e => Hnotg wm.heap.size hs3 e.symm)))
                | (at_builtin; refine wpList_append_int1 (w0 := w3) rfl _ _ 25 rfl 3 Try.underlying25 infoInt _ (shTo t o i) rfl (hL6.alloc _) _ (i : Int) rfl (by simp [go_sem]) (by omega) (by simp; omega) ?_; intro v6 w6 hown6 hg6; obtain ⟨g6, cap6, rfl, _, _⟩ := ownsRow_form hown6))
              have hS6 := hS5.stored i true
              rw [tabB_set, tabB_congr (g := seenR t o (i + 1)) (fun k _ => by have := seenR_next t o i k; rw [Hsh.out] at this; exact this)] at hS6
              have hS7 := (hS6.alloc (.cells #[.int .i64 (i : Int)] 3)).kept hg6 (.inr (Hnotg _ hs3))
              have hU7 := ((hU5.setCell_other (g := wm.heap.size) (o := i) (.bool true) (fun x hx => by cases hx; show w1.heap.size ≠ wm.heap.size; omega)).alloc (.cells #[.int .i64 (i : Int)] 3)).kept hg6 (.inr (Hnotg w1.heap.size (by omega)))
              have hold7 : Old w w6 := ((hold5.setCell (p := ⟨wm.heap.size, i, none⟩) hsm _).alloc _).grown hg6 (fun k e => by have := (World.ownsRow.lt hL k e).1; omega)
              have hs7 := hg6.size
              have hl7 : (shTo t o i ++ [(i : Int)]).length = (shTo t o i).length + 1 := by simp
              rw [hl7, ← shTo_yes Hsh.out] at hown6
              simp only [World.size_alloc, World.size_setCell] at hs7
              go_roundw
              case rel => exact ⟨i + 1, by omega, by go_num, hS7, hU7, hown6, hold7, by omega⟩
              case measure => simp [intOf]; omega
            · have Hp := Lib.hid hp
              have Hsh := Lib.hid hsh
              have Hsj := Lib.hid hsj
              have Hoj := Lib.hid hoj
              clear hp hsh hsj hoj
              go_wp2_with (go_at_call 49; refine (Hpar.out _ hold4).mono ?_; rw [Hp.out]; rintro e w5 ⟨rfl, ho5⟩; have hS5 := hS.old ho5; have hc5 := hS5.cell (k := i) (by rw [tabB_length]; omega); have hf5 := hS5.frozen i; have hU5 := hU.old ho5; have hL5 := hL.old ho5; have hold5 := hold4.trans ho5; have hs5 := ho5.size; have hr5 := hS5.cell (k := j) (by rw [tabB_length]; omega); rw [bx_tab (by omega), seenR_at hji, Hsj.out] at hr5; have hu5 := hU5.cell (k := j) (by rw [tabB_length]; omega); rw [bx_tab (by omega), unfF_all, Hoj.out] at hu5)
              have hS6 := hS5.stored i false
              rw [tabB_set, tabB_congr (g := seenR t o (i + 1)) (fun k _ => by have := seenR_next t o i k; rw [Hsh.out] at this; exact this)] at hS6
              have hU7 := hU5.setCell_other (g := wm.heap.size) (o := i) (.bool false) (fun x hx => by cases hx; show w1.heap.size ≠ wm.heap.size; omega)
              have hL6 : OwnI 3 w3 (w5.setCell ⟨wm.heap.size, i, none⟩ (.bool false)) (.slice al (shTo t o i).length cl) (shTo t o i) := hL5.kept (grownBy_set _ _ _ _) (.inr (fun e => Hnotg wm.heap.size hs3 e.symm))
              have hold7 : Old w (w5.setCell ⟨wm.heap.size, i, none⟩ (.bool false)) := hold5.setCell (p := ⟨wm.heap.size, i, none⟩) hsm _
              have hs7 : w3.heap.size ≤ (w5.setCell ⟨wm.heap.size, i, none⟩ (.bool false)).heap.size := by rw [World.size_setCell]; omega
              go_roundw
              case rel => exact ⟨i + 1, by omega, by go_num, hS6, hU7, by rw [shTo_no Hsh.out]; exact hL6, hold7, hs7⟩
              case measure => simp [intOf]; omega
            · have Hp := Lib.hid hp
              have Hsh := Lib.hid hsh
              have Hsj := Lib.hid hsj
              clear hp hsh hsj
              go_wp2_with (go_at_call 49; refine (Hpar.out _ hold4).mono ?_; rw [Hp.out]; rintro e w5 ⟨rfl, ho5⟩; have hS5 := hS.old ho5; have hc5 := hS5.cell (k := i) (by rw [tabB_length]; omega); have hf5 := hS5.frozen i; have hU5 := hU.old ho5; have hL5 := hL.old ho5; have hold5 := hold4.trans ho5; have hs5 := ho5.size; have hr5 := hS5.cell (k := j) (by rw [tabB_length]; omega); rw [bx_tab (by omega), seenR_at hji, Hsj.out] at hr5)
              have hS6 := hS5.stored i false
              rw [tabB_set, tabB_congr (g := seenR t o (i + 1)) (fun k _ => by have := seenR_next t o i k; rw [Hsh.out] at this; exact this)] at hS6
              have hU7 := hU5.setCell_other (g := wm.heap.size) (o := i) (.bool false) (fun x hx => by cases hx; show w1.heap.size ≠ wm.heap.size; omega)
              have hL6 : OwnI 3 w3 (w5.setCell ⟨wm.heap.size, i, none⟩ (.bool false)) (.slice al (shTo t o i).length cl) (shTo t o i) := hL5.kept (grownBy_set _ _ _ _) (.inr (fun e => Hnotg wm.heap.size hs3 e.symm))
              have hold7 : Old w (w5.setCell ⟨wm.heap.size, i, none⟩ (.bool false)) := hold5.setCell (p := ⟨wm.heap.size, i, none⟩) hsm _
              have hs7 : w3.heap.size ≤ (w5.setCell ⟨wm.heap.size, i, none⟩ (.bool false)).heap.size := by rw [World.size_setCell]; omega
              go_roundw
              case rel => exact ⟨i + 1, by omega, by go_num, hS6, hU7, by rw [shTo_no Hsh.out]; exact hL6, hold7, hs7⟩
              case measure => simp [intOf]; omega
          · obtain rfl : i = t.length := by omega
            go_wp2_with fail
            go_ret2
            exact ⟨ret_shown (shownT_good Hg.out) hL.ints, hold4⟩
  · have hg1 : (goodE t != 0) = true := by simpa using hg
    have Hs := Lib.hid (shownT_bad (o := o) hg)
    clear hg
    go_enter Try.func33, Try.ntmps33
    go_wp2_with (go_at_call 10; refine (rgood_any t _ _ hT'.out).mono ?_; rintro e w1 ⟨rfl, ho1⟩)
    go_ret2
    exact ⟨ret_shown Hs.out (Ints.nil _), ho1⟩
end Go.Proofs.Ytigpjfebnppejaa
