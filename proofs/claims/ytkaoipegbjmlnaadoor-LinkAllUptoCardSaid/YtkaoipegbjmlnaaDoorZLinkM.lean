/-
  LINK, K, PLAIN: the chapter's first examples.
-/
import Derived.Test.YtkaoipegbjmlnaaDoorZLinkI
namespace Go.Proofs.YtkaoipegbjmlnaaDoor

def exL : List Rfr := [⟨0, 1, 0, ⟨#[]⟩, 0, 0⟩, ⟨0, 2, 0, ⟨#[]⟩, 0, 0⟩, ⟨1, 3, 0, ⟨#[]⟩, 0, 0⟩, ⟨2, 3, 0, ⟨#[]⟩, 0, 0⟩, ⟨3, 0, 0, ⟨#[]⟩, 0, 0⟩]
theorem ex_out : outOf exL 4 0 = [1, 2] := by decide
theorem ex_lone : loneOf exL 5 = [4] := by decide
theorem ex_reach {D : Int → Option Nat} (h : ∀ x d, D x = some d ↔ DistIs (edge exL 5) 3 x d) : below 5 (fun x => (D x).isSome) = [0, 1, 2, 3] := by
  have d3 : D 3 = some 0 := (h 3 0).2 (DistIs.self _ _)
  have w0 : Walk (edge exL 5) 1 3 0 := (Walk.nil 3).snoc (by decide)
  have d0 : D 0 = some 1 := (h 0 1).2 ⟨w0, fun m hm => by
    cases m with
    | zero => cases hm
    | succ m => omega⟩
  have two : ∀ x : Int, x ≠ 3 → edge exL 5 0 x = true → edge exL 5 3 x = false → D x = some 2 := fun x h3 h1 h2 => (h x 2).2 ⟨w0.snoc h1, fun m hm => by
    match m, hm with
    | 0, hm => cases hm; exact absurd rfl h3
    | 1, hm =>
      cases hm with
      | snoc h e =>
        cases h
        rw [h2] at e; cases e
    | m + 2, _ => omega⟩
  have d1 : D 1 = some 2 := two 1 (by decide) (by decide) (by decide)
  have d2 : D 2 = some 2 := two 2 (by decide) (by decide) (by decide)
  have d4 : D 4 = none := by
    cases hd : D 4 with
    | none => rfl
    | some d =>
      obtain ⟨hw, _⟩ := (h 4 d).1 hd
      cases hw with
      | snoc _ e =>
        exfalso
        simp [edge, exL, cntR] at e
  have e : below 5 (fun x => (D x).isSome) = ([0, 1, 2, 3, 4] : List Int).filter fun x => (D x).isSome := rfl
  rw [e]
  simp [d0, d1, d2, d3, d4]
theorem ex_way {D : Int → Option Nat} (h : ∀ x d, D x = some d ↔ DistIs (fun a b => edge exL 4 b a) 3 x d) : D 0 = some 2 ∧ (0 : Int) :: wayL (edge exL 4) 4 D 2 0 = [0, 1, 3] := by
  have d3 : D 3 = some 0 := (h 3 0).2 (DistIs.self _ _)
  have w1 : Walk (fun a b => edge exL 4 b a) 1 3 1 := (Walk.nil 3).snoc (by decide)
  have d1 : D 1 = some 1 := (h 1 1).2 ⟨w1, fun m hm => by
    cases m with
    | zero => cases hm
    | succ m => omega⟩
  have d0 : D 0 = some 2 := (h 0 2).2 ⟨w1.snoc (by decide), fun m hm => by
    match m, hm with
    | 0, hm => cases hm
    | 1, hm =>
      cases hm with
      | snoc h e =>
        cases h
        exact absurd e (by decide)
    | m + 2, _ => omega⟩
  refine ⟨d0, ?_⟩
  have b0 : below 4 (edge exL 4 0) = [1, 2] := by decide
  have b1 : below 4 (edge exL 4 1) = [3] := by decide
  have n0 : nextOf (edge exL 4) 4 D 0 1 = 1 := by
    unfold nextOf
    rw [b0]
    simp [d1]
  have n1 : nextOf (edge exL 4) 4 D 1 0 = 3 := by
    unfold nextOf
    rw [b1]
    simp [d3]
  show (0 : Int) :: nextOf (edge exL 4) 4 D 0 1 :: nextOf (edge exL 4) 4 D (nextOf (edge exL 4) 4 D 0 1) 0 :: [] = _
  rw [n0, n1]
end Go.Proofs.YtkaoipegbjmlnaaDoor
/-
  LINK, M: references of two numbers each.
-/

namespace Go.Proofs.YtkaoipegbjmlnaaDoor
open Go.RowKit
attribute [local go_sem] Old.refl Old.alloc Old.drew Old.setCell OldW.old

def pr2E : Enc (Int × Int) where
  k := 2
  enc x := [.int .i64 x.1, .int .i64 x.2]
  len _ := rfl
  one x u hu := by
    simp only [List.mem_cons, List.not_mem_nil, or_false] at hu
    rcases hu with rfl | rfl <;> rfl
def mkR (x : Int × Int) : Rfr := ⟨x.1, x.2, 0, ⟨#[]⟩, 0, 0⟩
set_option maxRecDepth 100000 in
set_option maxHeartbeats 1600000 in
theorem pairs_any (v : Value) (t : List (Int × Int)) (w : World) (hl : Recs pr2E w v t) (hn : t.length ≤ 65536) :
    Calls Tryd.prog 17 #[v] w fun e w' => (∃ u, e = .returned u ∧ OwnS rfE 43 w w' u (t.map mkR)) ∧ Old w w' := by
  obtain ⟨a, cap, b, off, rfl, hc1, hc2, ha, ht⟩ := hl
  have Ha := Lib.hid ha
  have Ht := Lib.hid ht
  clear ha ht
  go_enter Tryd.func17, Tryd.ntmps17
  go_wp2_with fail
  go_loopw [3, 4] (fun x j wr => ∃ k : Nat, j = .int .i64 k ∧ k ≤ t.length ∧ OwnS rfE 43 w wr x ((t.take k).map mkR) ∧ Old w wr) (fun _ j _ => t.length - (intOf j).toNat)
  case atStart => exact ⟨0, rfl, Nat.zero_le _, OwnS.nil _ _ _ _, Old.refl _⟩
  case round =>
    obtain ⟨k, rfl, hk, hown, ho⟩ := hrel
    have hlen : ((t.take k).map mkR).length = k := by rw [List.length_map, List.length_take]; omega
    obtain ⟨ax, cx, rfl, _, _⟩ := hown.form
    have Hown := Lib.hid hown
    clear hown
    by_cases hlt : k < t.length
    · have hi : (k : Int) < t.length := by omega
      obtain rfl := Ha.out (by omega)
      obtain ⟨x, hx⟩ : ∃ x, t[k]? = some x := ⟨_, List.getElem?_eq_getElem hlt⟩
      have q0 := Ht.out (k * 2 + 0) _ (Enc.all_at (c := pr2E) (j := 0) hx rfl)
      have q1 := Ht.out (k * 2 + 1) _ (Enc.all_at (c := pr2E) (j := 1) hx rfl)
      rw [← Nat.add_assoc] at q1
      rw [Nat.add_zero] at q0
      have Hsn := Lib.hid (show (t.take (k + 1)).map mkR = (t.take k).map mkR ++ [mkR x] from by
        rw [List.take_succ_eq_append_getElem hlt, (List.getElem?_eq_some_iff.1 hx).2, List.map_append]; rfl)
      obtain ⟨xf, xt⟩ := x
      have K0 : ∀ V, Old wr V → V.cell? ⟨b, off + k * 2, none⟩ = some (.int .i64 xf) := fun V o => q0 V (ho.trans o)
      have K1 : ∀ V, Old wr V → V.cell? ⟨b, off + k * 2 + 1, none⟩ = some (.int .i64 xt) := fun V o => q1 V (ho.trans o)
      have k0 := K0 wr (Old.refl _)
      have k1 := K1 wr (Old.refl _)
      have hrow : wr.ownsRow w.heap.size 43 6 (.slice ax k cx) k (rfE.all ((t.take k).map mkR)) := by
        have h := Hown.out
        unfold OwnS at h
        rw [hlen] at h
        exact h
      rw [hlen]
      have Hlen := Lib.hid hlen
      clear hlen q0 q1 hx
      obtain ⟨i0, hi0, hz0, hz1, hz2⟩ := info_parts infoRf
      generalize (t.take k).map mkR = raw at *
      go_wp2_with fail
      go_region_law
        ((refine step_append_lies _ (by rfl) _ _ _ (by rfl) w.heap.size 43 i0 _ 6 56 Tryd.underlying24 hi0 hz0 hz1 hz2 rfl (by omega) _ k (rfE.all raw) (by rfl) ((World.ownsRow.alloc hrow _).drew)
              ⟨wr.heap.size, 0, none⟩ 1 1 (rfE.enc (mkR (xf, xt))) (by rfl) (by rfl) (World.news_of_block (cs := (rfE.enc (mkR (xf, xt))).toArray) (t := 43) (fr := (0, 0)) (heap_alloc_new wr _)) (rfE.one (mkR (xf, xt)))
              (by omega) (by simp [maxLen]; omega) (by omega) (by have := ho.size; simp; omega) (wr.heap.size + 1) (by simp) ?_; intro gg cp w4 hown4 hgrow hat hltg; have o4 : Old w w4 := (((ho.alloc _).drew)).grown hgrow (fun q hq => (World.ownsRow.lt hrow q hq).1)))
      all_goals go_wp2_with fail
      all_goals go_roundw
      all_goals first
        | exact ⟨k + 1, by go_num, by omega, by
            unfold OwnS
            rw [Hsn.out, Enc.all_append, Enc.all_one, List.length_append, Hlen.out]
            exact hown4, o4⟩
        | (simp [intOf]; omega)
    · obtain rfl : k = t.length := by omega
      have hi : ¬ (t.length : Int) < t.length := by omega
      rw [List.take_length] at Hown
      go_wp2_with fail
      go_ret
      exact ⟨⟨_, rfl, by have h := Hown.out; simpa using h⟩, ho⟩
end Go.Proofs.YtkaoipegbjmlnaaDoor
