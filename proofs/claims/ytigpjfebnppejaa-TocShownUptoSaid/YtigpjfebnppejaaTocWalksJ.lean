/-
  WALKS J: the program's Shown.
-/
import Derived.Test.YtigpjfebnppejaaTocWalksE
import Derived.Test.YtigpjfebnppejaaBools
namespace Go.Proofs.Ytigpjfebnppejaa
open Go.RowKit Go.Maps
attribute [local go_sem] Old.refl Old.alloc Old.drew Old.setCell OldW.old

theorem grownBy_set (W : World) (b o : Nat) (v : Value) : W.grownBy (W.setCell ⟨b, o, none⟩ v) (some b) :=
  ⟨rfl, rfl, rfl, (KeepsWalks.setCell W _ v).size, fun k _ hk => Below.heap_setCell _ _ _ k (fun e => hk (by rw [e]))⟩
theorem MapII.run {P : Program} {K E : TypeId} {w : World} {b n : Nat} {f : Int → Int} (h : MapII P K E w b n f) (T : TypeId) (hk : P.underlying K = some (.int .i64)) (ht : P.underlying T = some (.map K E)) (he : P.underlying E = some (.int .i64))
    (hz : ∀ w, (zeroValue E).run P w = .ok (.int .i64 0) w) {y : Int} (hy : I64 y) : (Instr.lookup T (.map (some b)) (.int .i64 y) false).run P w = .ok (.int .i64 (f y)) w := by
  obtain ⟨D, h1, h2⟩ := h
  obtain ⟨c, hrun, hat, _⟩ := h1.lookup_int (int_keyed hk) ht he (hz w) (keyOf_int_mk hk hy.wf)
  rw [h2 y hy] at hat
  obtain rfl : f y = c := by simpa using hat
  exact hrun
theorem ret_shown {w' : World} {t : List (Int × Int)} {o l : List Int} {n : Int} {v : Value} (h : shownT t o = (l, n)) (hv : Ints w' v l) : RetIntsE w' (shownT t o).1 (shownT t o).2 (.returned (.tuple #[v, .int .i64 n])) := by
  rw [h]; exact ⟨_, rfl, hv⟩

set_option maxRecDepth 100000 in
set_option maxHeartbeats 2000000 in
theorem Shown_any (t : List (Int × Int)) (o : List Int) (v u : Value) (w : World) (hT : Prs w v t) (hO : Ints w u o) (hob : ∀ i, i < o.length → I64 (ix o i)) :
    Calls Try.prog 27 #[v, u] w fun e w' => RetIntsE w' (shownT t o).1 (shownT t o).2 e ∧ Old w w' := by
  have hT' := Lib.hid hT
  have Hob := Lib.hid hob
  obtain ⟨a, cap, b, off, rfl, hn1, hn2, ha, ht0, ht1⟩ := hT
  obtain ⟨ao, capo, bo, offo, rfl, hm1, hm2, hao, hc⟩ := hO
  have hmm := @run_makeMap Try.prog
  clear hob
  by_cases hg : goodE t = 0
  · have hg1 : (goodE t != 0) = false := by simp [hg]
    have Hg := Lib.hid hg
    have HG := Lib.hid ((goodE_zero t).1 hg)
    have Hl := HG.out.len
    clear hg
    have tok := True.intro
    go_enter Try.func27, Try.ntmps27
    go_wp2_with (go_at_call 39; refine (good_any t _ _ hT'.out).mono ?_; rintro e w1 ⟨rfl, ho1⟩; have hs1 := ho1.size)
    go_loopw [22] (fun j wr => ∃ k : Nat, k ≤ o.length ∧ j = .int .i64 k ∧ MapII Try.prog 3 3 wr w1.heap.size k (opF o k) ∧ Old w wr) (fun j _ => o.length - (intOf j).toNat)
    case atStart => exact ⟨0, by omega, rfl, by rw [opF_zero]; exact MapII.made _ _ _ _, ho1.alloc _⟩
    case round =>
      obtain ⟨k, hk, rfl, hmap, hold⟩ := hrel
      by_cases hlt : k < o.length
      · obtain rfl := hao (by omega)
        have hck := hc k hlt
        go_wp2_with (at_mapUpdate; refine wpList_update_mii (w0 := w) rfl _ _ _ 79 rfl 3 3 Try.underlying3 Try.underlying79 Try.underlying3 w1.heap.size k (opF o k) rfl hmap (by omega) (ix o k) 1 rfl (Hob.out k hlt) rfl (by constructor <;> decide) hold hs1 ?_; intro w2 hmap1 hold1 _)
        go_roundw
        case rel => exact ⟨k + 1, by omega, by go_num, by rw [← opF_succ hlt]; exact hmap1, hold1⟩
        case measure => simp [intOf]; omega
      · obtain rfl : k = o.length := by omega
        obtain ⟨wm, rfl⟩ : ∃ wo : World, wo = wr := ⟨_, rfl⟩
        have hbm := hmap.lt
        clear hc hao
        go_wp2_with (at_make; refine wpList_make_ints (w0 := w) rfl _ _ 25 rfl 3 Try.underlying25 infoInt t.length rfl rfl (by omega) hold ?_; intro w3 hown ho3 hs3)
        have hold3 := hold.trans ho3
        have hmap3 := hmap.old ho3
        have hsm := hold.size
        go_loopw [11, 34] (fun l j wr => ∃ i : Nat, i ≤ t.length ∧ j = .int .i64 i ∧ OwnI 3 w wr (.slice (some ⟨wm.heap.size, 0, none⟩) t.length t.length) (tab t.length (seenF t o i)) ∧ OwnI 3 w3 wr l (shTo t o i) ∧
          MapII Try.prog 3 3 wr w1.heap.size o.length (opF o o.length) ∧ Old w wr ∧ w3.heap.size ≤ wr.heap.size) (fun _ j _ => t.length - (intOf j).toNat)
        case atStart => exact ⟨0, by omega, rfl, by rw [tab_congr (fun k _ => seenF_zero t o k), ← tab_zero]; exact hown, OwnI.nil _ _ _, hmap3, hold3, Nat.le_refl _⟩
        case round =>
          obtain ⟨i, hi, rfl, hS, hL, hM, hold4, hsz4⟩ := hrel
          have hll := shTo_len t o i
          by_cases hlt' : i < t.length
          · obtain rfl := ha (by omega)
            have Hpar := Lib.hid (fun (W : World) (h : Old w W) => parent_any t HG.out (i : Int) i _ W (hT'.out.old h) hlt' rfl)
            obtain ⟨al, cl, rfl, _, _⟩ := ownsRow_form hL
            have key : (par t i = -1 ∧ shB t o i = true) ∨ (∃ j : Nat, par t i = (j : Int) ∧ j < i ∧ shB t o j = true ∧ hasB o (p0 t j) = true ∧ shB t o i = true) ∨
                (∃ j : Nat, par t i = (j : Int) ∧ j < i ∧ shB t o j = true ∧ hasB o (p0 t j) = false ∧ shB t o i = false) ∨ (∃ j : Nat, par t i = (j : Int) ∧ j < i ∧ shB t o j = false ∧ shB t o i = false) := by
              rcases par_cases t i with h | ⟨j, h, hj⟩
              · exact .inl ⟨h, shB_root (by omega)⟩
              · have e := shB_deep (o := o) h
                by_cases h1 : shB t o j = true
                · by_cases h2 : hasB o (p0 t j) = true
                  · exact .inr (.inl ⟨j, h, hj, h1, h2, by rw [e, h1, h2]; rfl⟩)
                  · have h2' : hasB o (p0 t j) = false := by simpa using h2
                    exact .inr (.inr (.inl ⟨j, h, hj, h1, h2', by rw [e, h1, h2']; rfl⟩))
                · have h1' : shB t o j = false := by simpa using h1
                  exact .inr (.inr (.inr ⟨j, h, hj, h1', by rw [e, h1']; rfl⟩))
            have Hnotg : ∀ g, g < w3.heap.size → some g ≠ (Value.slice al (shTo t o i).length cl).ownBlock := fun g hgl e => by
              have := (World.ownsRow.lt hL g e.symm).1
              omega
            rcases key with ⟨hp, hsh⟩ | ⟨j, hp, hji, hsj, hoj, hsh⟩ | ⟨j, hp, hji, hsj, hoj, hsh⟩ | ⟨j, hp, hji, hsj, hsh⟩
            · -- a root
              have Hp := Lib.hid hp
              have Hsh := Lib.hid hsh
              clear hp hsh ht0 ht1
              go_wp2_with (first
                | (go_at_call 42; refine (Hpar.out _ hold4).mono ?_; rw [Hp.out]; rintro e w5 ⟨rfl, ho5⟩; have hS5 := hS.old ho5; have hc5 := hS5.cell (k := i) (by rw [tab_length]; omega); have hf5 := hS5.frozen i; have hL5 := hL.old ho5; have hM5 := hM.old ho5; have hold5 := hold4.trans ho5; have hs5 := ho5.size; have hL6 : OwnI 3 w3 (w5.setCell ⟨wm.heap.size, i, none⟩ (.int .i64 1)) (.slice al (shTo t o i).length cl) (shTo t o i) := hL5.kept (grownBy_set _ _ _ _) (.inr (fun e => Hnotg wm.heap.size hs3 e.symm)))
                | (at_builtin; refine wpList_append_int1 (w0 := w3) rfl _ _ 25 rfl 3 Try.underlying25 infoInt _ (shTo t o i) rfl (hL6.alloc _) _ (i : Int) rfl (by simp [go_sem]) (by omega) (by simp; omega) ?_; intro v6 w6 hown6 hg6; obtain ⟨g6, cap6, rfl, _, _⟩ := ownsRow_form hown6))
              have hS6 := hS5.stored i 1
              rw [tab_set, tab_congr (fun k _ => seenF_yes Hsh.out k)] at hS6
              have hS7 := (hS6.alloc (.cells #[.int .i64 (i : Int)] 3)).kept hg6 (.inr (Hnotg _ hs3))
              have hM7 := ((hM5.kept (grownBy_set _ wm.heap.size i (.int .i64 1)) (fun e => by have := Option.some.inj e; omega)).old ((Old.refl _).alloc (.cells #[.int .i64 (i : Int)] 3))).kept hg6 (Hnotg _ (by omega))
              have hold7 : Old w w6 := ((hold5.setCell (p := ⟨wm.heap.size, i, none⟩) hsm _).alloc _).grown hg6 (fun k e => by have := (World.ownsRow.lt hL k e).1; omega)
              have hs7 := hg6.size
              have hl7 : (shTo t o i ++ [(i : Int)]).length = (shTo t o i).length + 1 := by simp
              rw [hl7, ← shTo_yes Hsh.out] at hown6
              simp only [World.size_alloc, World.size_setCell] at hs7
              go_roundw
              case rel => exact ⟨i + 1, by omega, by go_num, hS7, hown6, hM7, hold7, by omega⟩
              case measure => simp [intOf]; omega
            · have Hp := Lib.hid hp
              have Hsh := Lib.hid hsh
              have Hsj := Lib.hid hsj
              have Hoj := Lib.hid hoj
              have htp := HG.out.top j (by omega)
              have htj := ht0 j (by omega)
              clear hp hsh hsj hoj ht0 ht1
              go_wp2_with (first
                | (go_at_call 42; refine (Hpar.out _ hold4).mono ?_; rw [Hp.out]; rintro e w5 ⟨rfl, ho5⟩; have hS5 := hS.old ho5; have hc5 := hS5.cell (k := i) (by rw [tab_length]; omega); have hf5 := hS5.frozen i; have hL5 := hL.old ho5; have hM5 := hM.old ho5; have hold5 := hold4.trans ho5; have hs5 := ho5.size; have hr5 := hS5.cell (k := j) (by rw [tab_length]; omega); rw [ix_tab (by omega), seenF_at hji, Hsj.out, if_pos rfl] at hr5; have hlk := hM5.run 79 Try.underlying3 Try.underlying79 Try.underlying3 zeroInt (y := p0 t j) ⟨by omega, by omega⟩; rw [opF_all, Hoj.out, if_pos rfl] at hlk; have hL6 : OwnI 3 w3 (w5.setCell ⟨wm.heap.size, i, none⟩ (.int .i64 1)) (.slice al (shTo t o i).length cl) (shTo t o i) := hL5.kept (grownBy_set _ _ _ _) (.inr (fun e => Hnotg wm.heap.size hs3 e.symm)))
                | (at_builtin; refine wpList_append_int1 (w0 := w3) rfl _ _ 25 rfl 3 Try.underlying25 infoInt _ (shTo t o i) rfl (hL6.alloc _) _ (i : Int) rfl (by simp [go_sem]) (by omega) (by simp; omega) ?_; intro v6 w6 hown6 hg6; obtain ⟨g6, cap6, rfl, _, _⟩ := ownsRow_form hown6))
              have hS6 := hS5.stored i 1
              rw [tab_set, tab_congr (fun k _ => seenF_yes Hsh.out k)] at hS6
              have hS7 := (hS6.alloc (.cells #[.int .i64 (i : Int)] 3)).kept hg6 (.inr (Hnotg _ hs3))
              have hM7 := ((hM5.kept (grownBy_set _ wm.heap.size i (.int .i64 1)) (fun e => by have := Option.some.inj e; omega)).old ((Old.refl _).alloc (.cells #[.int .i64 (i : Int)] 3))).kept hg6 (Hnotg _ (by omega))
              have hold7 : Old w w6 := ((hold5.setCell (p := ⟨wm.heap.size, i, none⟩) hsm _).alloc _).grown hg6 (fun k e => by have := (World.ownsRow.lt hL k e).1; omega)
              have hs7 := hg6.size
              have hl7 : (shTo t o i ++ [(i : Int)]).length = (shTo t o i).length + 1 := by simp
              rw [hl7, ← shTo_yes Hsh.out] at hown6
              simp only [World.size_alloc, World.size_setCell] at hs7
              go_roundw
              case rel => exact ⟨i + 1, by omega, by go_num, hS7, hown6, hM7, hold7, by omega⟩
              case measure => simp [intOf]; omega
            · have Hp := Lib.hid hp
              have Hsh := Lib.hid hsh
              have Hsj := Lib.hid hsj
              have Hoj := Lib.hid hoj
              have htp := HG.out.top j (by omega)
              have htj := ht0 j (by omega)
              clear hp hsh hsj hoj ht0 ht1
              go_wp2_with (go_at_call 42; refine (Hpar.out _ hold4).mono ?_; rw [Hp.out]; rintro e w5 ⟨rfl, ho5⟩; have hS5 := hS.old ho5; have hc5 := hS5.cell (k := i) (by rw [tab_length]; omega); have hf5 := hS5.frozen i; have hL5 := hL.old ho5; have hM5 := hM.old ho5; have hold5 := hold4.trans ho5; have hs5 := ho5.size; have hr5 := hS5.cell (k := j) (by rw [tab_length]; omega); rw [ix_tab (by omega), seenF_at hji, Hsj.out, if_pos rfl] at hr5; have hlk := hM5.run 79 Try.underlying3 Try.underlying79 Try.underlying3 zeroInt (y := p0 t j) ⟨by omega, by omega⟩; rw [opF_all, Hoj.out, if_neg (by decide)] at hlk)
              go_roundw
              case rel => exact ⟨i + 1, by omega, by go_num, by rw [← tab_congr (fun k _ => seenF_no Hsh.out k)]; exact hS5, by rw [shTo_no Hsh.out]; exact hL5, hM5, hold5, by omega⟩
              case measure => simp [intOf]; omega
            · have Hp := Lib.hid hp
              have Hsh := Lib.hid hsh
              have Hsj := Lib.hid hsj
              clear hp hsh hsj ht0 ht1
              go_wp2_with (go_at_call 42; refine (Hpar.out _ hold4).mono ?_; rw [Hp.out]; rintro e w5 ⟨rfl, ho5⟩; have hS5 := hS.old ho5; have hc5 := hS5.cell (k := i) (by rw [tab_length]; omega); have hf5 := hS5.frozen i; have hL5 := hL.old ho5; have hM5 := hM.old ho5; have hold5 := hold4.trans ho5; have hs5 := ho5.size; have hr5 := hS5.cell (k := j) (by rw [tab_length]; omega); rw [ix_tab (by omega), seenF_at hji, Hsj.out, if_neg (by decide)] at hr5)
              go_roundw
              case rel => exact ⟨i + 1, by omega, by go_num, by rw [← tab_congr (fun k _ => seenF_no Hsh.out k)]; exact hS5, by rw [shTo_no Hsh.out]; exact hL5, hM5, hold5, by omega⟩
              case measure => simp [intOf]; omega
          · obtain rfl : i = t.length := by omega
            go_wp2_with fail
            go_ret2
            exact ⟨ret_shown (shownT_good Hg.out) hL.ints, hold4⟩
  · have hg1 : (goodE t != 0) = true := by simpa using hg
    have Hs := Lib.hid (shownT_bad (o := o) hg)
    clear hg
    go_enter Try.func27, Try.ntmps27
    go_wp2_with (go_at_call 39; refine (good_any t _ _ hT'.out).mono ?_; rintro e w1 ⟨rfl, ho1⟩)
    go_ret2
    exact ⟨ret_shown Hs.out (Ints.nil _), ho1⟩
end Go.Proofs.Ytigpjfebnppejaa
