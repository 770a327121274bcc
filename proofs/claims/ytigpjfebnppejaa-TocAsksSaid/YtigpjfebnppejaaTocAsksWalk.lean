/-
  THE WALK OF TocAsks.
-/
import Derived.Test.YtigpjfebnppejaaTocWalksH
namespace Go.Proofs.Ytigpjfebnppejaa
open Go.RowKit Go.Maps
attribute [local go_sem] Old.refl Old.alloc Old.drew Old.setCell OldW.old

set_option maxRecDepth 100000 in
set_option maxHeartbeats 4000000 in
theorem tocAsks_row_walk (w : World) (t : List (Int × Int)) (v : Value) (hT : Prs w v t) (_b : ∀ i, i < t.length → (-9223372036854775808 ≤ p0 t i ∧ p0 t i ≤ 9223372036854775807) ∧ -9223372036854775808 ≤ p1 t i ∧ p1 t i ≤ 9223372036854775807)
    (hz : t.length * 16 ≤ 140737488351232) (n : Int) (hn : -9223372036854775808 ≤ n ∧ n ≤ 9223372036854775807) (i : Int) (_hi : -9223372036854775808 ≤ i ∧ i ≤ 9223372036854775807) (x : Int) (_hx : -9223372036854775808 ≤ x ∧ x ≤ 9223372036854775807) :
    Calls Try.prog 5 #[v, .int .i64 n, .int .i64 i, .int .i64 x] w fun e w' => e = .returned (.bool true) ∧ Old w w' := by
  have hT' := Lib.hid hT
  have hz' : t.length * 16 ≤ 140737488355328 := by omega
  have hn9 := hn.2
  clear hT _b hz hn _hi _hx
  go_enter Try.func5, Try.ntmps5
  go_wp2_with fail
  refine (twin_any t v _ hT'.out hz').mono ?_
  rintro e w1 ⟨⟨v1, rfl, hv1⟩, ho1⟩
  go_wp2_with fail
  refine (Calls.old ho1 (check_any t n v1 _ hv1 hn9)).mono ?_
  rintro e w2 ⟨rfl, ho2⟩
  go_wp2_with fail
  refine (Calls.old ho2 (rcheck_any t n v _ (hT'.out.old ho2))).mono ?_
  rintro e w3 ⟨rfl, ho3⟩
  go_wp2_with fail
  refine (Calls.old ho3 (awake_any _)).mono ?_
  rintro e w4 ⟨rfl, ho4⟩
  go_wp2_with fail
  refine (Calls.old ho4 (twin_any t v _ (hT'.out.old ho4) hz')).mono ?_
  rintro e w5 ⟨⟨v5, rfl, hv5⟩, ho5⟩
  go_wp2_with fail
  refine (Calls.old ho5 (Find_any t x v5 _ hv5)).mono ?_
  rintro e w6 ⟨rfl, ho6⟩
  go_wp2_with fail
  refine (Calls.old ho6 (rFind_any t x v _ (hT'.out.old ho6))).mono ?_
  rintro e w7 ⟨rfl, ho7⟩
  go_wp2_with fail
  refine (Calls.old ho7 (twin_any t v _ (hT'.out.old ho7) hz')).mono ?_
  rintro e w8 ⟨⟨v8, rfl, hv8⟩, ho8⟩
  go_wp2_with fail
  refine (Calls.old ho8 (Parent_any t i v8 _ hv8)).mono ?_
  rintro e w9 ⟨rfl, ho9⟩
  go_wp2_with fail
  refine (Calls.old ho9 (rParent_any t i v _ (hT'.out.old ho9))).mono ?_
  rintro e wA ⟨rfl, hoA⟩
  go_wp2_with fail
  refine (Calls.old hoA (twin_any t v _ (hT'.out.old hoA) hz')).mono ?_
  rintro e wB ⟨⟨vB, rfl, hvB⟩, hoB⟩
  go_wp2_with fail
  refine (Calls.old hoB (End_any t i vB _ hvB)).mono ?_
  rintro e wC ⟨rfl, hoC⟩
  go_wp2_with fail
  refine (Calls.old hoC (rEnd_any t i v _ (hT'.out.old hoC))).mono ?_
  rintro e wD ⟨rfl, hoD⟩
  go_wp2_with fail
  refine (Calls.old hoD (twin_any t v _ (hT'.out.old hoD) hz')).mono ?_
  rintro e wE ⟨⟨vE, rfl, hvE⟩, hoE⟩
  go_wp2_with fail
  refine (Kids_any t i vE _ hvE).mono ?_
  rintro e wF ⟨⟨vF, rfl, hvF⟩, hoF⟩
  go_wp2_with fail
  refine (rKids_any t i v _ (hT'.out.old (hoE.trans hoF))).mono ?_
  rintro e wG ⟨⟨vG, rfl, hvG⟩, hoG⟩
  go_wp2_with fail
  refine (ints_any _ _ vF vG _ (hvF.old hoG) hvG).mono ?_
  rw [eqB_self]
  rintro e wH ⟨rfl, hoH⟩
  go_wp2_with fail
  go_ret
  exact ⟨rfl, ((hoE.trans hoF).trans hoG).trans hoH⟩
end Go.Proofs.Ytigpjfebnppejaa
