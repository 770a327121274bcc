/-
  THE WALK OF TocWays.
-/
import Derived.Test.YtigpjfebnppejaaTocWalksK
import Derived.Test.YtigpjfebnppejaaTocWalksI
namespace Go.Proofs.Ytigpjfebnppejaa
open Go.RowKit Go.Maps
attribute [local go_sem] Old.refl Old.alloc Old.drew Old.setCell OldW.old

set_option maxRecDepth 100000 in
set_option maxHeartbeats 4000000 in
theorem tocWays_row_walk (w : World) (t : List (Int × Int)) (v : Value) (hT : Prs w v t) (_b : ∀ i, i < t.length → (-9223372036854775808 ≤ p0 t i ∧ p0 t i ≤ 9223372036854775807) ∧ -9223372036854775808 ≤ p1 t i ∧ p1 t i ≤ 9223372036854775807)
    (hz : t.length * 16 ≤ 140737488351232) (x : Int) (_hx : -9223372036854775808 ≤ x ∧ x ≤ 9223372036854775807)
    (o : List Int) (u : Value) (hO : Ints w u o) (hob : ∀ i, i < o.length → -9223372036854775808 ≤ ix o i ∧ ix o i ≤ 9223372036854775807) (hzo : o.length * 8 ≤ 140737488351232) :
    Calls Try.prog 7 #[v, .int .i64 x, u] w fun e w' => e = .returned (.bool true) ∧ Old w w' := by
  have hT' := Lib.hid hT
  have hO' := Lib.hid hO
  have Hob := Lib.hid hob
  have hz' : t.length * 16 ≤ 140737488355328 := by omega
  have hzo' : o.length * 8 ≤ 140737488355328 := by omega
  clear hT hO _b hz _hx hob hzo
  go_enter Try.func7, Try.ntmps7
  go_wp2_with fail
  refine (twin_any t v _ hT'.out hz').mono ?_
  rintro e w1 ⟨⟨v1, rfl, hv1⟩, ho1⟩
  go_wp2_with fail
  refine (Calls.old ho1 (Next_any t x v1 _ hv1)).mono ?_
  rintro e w2 ⟨rfl, ho2⟩
  go_wp2_with fail
  refine (Calls.old ho2 (rNext_any t x v _ (hT'.out.old ho2))).mono ?_
  rintro e w3 ⟨rfl, ho3⟩
  go_wp2_with fail
  refine (Calls.old ho3 (awake_any _)).mono ?_
  rintro e w4 ⟨rfl, ho4⟩
  go_wp2_with fail
  refine (Calls.old ho4 (twin_any t v _ (hT'.out.old ho4) hz')).mono ?_
  rintro e w5 ⟨⟨v5, rfl, hv5⟩, ho5⟩
  go_wp2_with fail
  refine (Calls.old ho5 (Prev_any t x v5 _ hv5)).mono ?_
  rintro e w6 ⟨rfl, ho6⟩
  go_wp2_with fail
  refine (Calls.old ho6 (rPrev_any t x v _ (hT'.out.old ho6))).mono ?_
  rintro e w7 ⟨rfl, ho7⟩
  go_wp2_with fail
  refine (Calls.old ho7 (twin_any t v _ (hT'.out.old ho7) hz')).mono ?_
  rintro e w8 ⟨⟨v8, rfl, hv8⟩, ho8⟩
  go_wp2_with fail
  refine (Calls.old ho8 (Up_any t x v8 _ hv8)).mono ?_
  rintro e w9 ⟨rfl, ho9⟩
  go_wp2_with fail
  refine (Calls.old ho9 (rUp_any t x v _ (hT'.out.old ho9))).mono ?_
  rintro e wA ⟨rfl, hoA⟩
  go_wp2_with fail
  refine (Calls.old hoA (twin_any t v _ (hT'.out.old hoA) hz')).mono ?_
  rintro e wB ⟨⟨vB, rfl, hvB⟩, hoB⟩
  go_wp2_with fail
  refine (Path_any t x vB _ hvB).mono ?_
  rintro e wC ⟨⟨vC, rfl, hvC⟩, hoC⟩
  go_wp2_with fail
  refine (rPath_any t x v _ (hT'.out.old (hoB.trans hoC))).mono ?_
  rintro e wD ⟨⟨vD, rfl, hvD⟩, hoD⟩
  go_wp2_with fail
  refine (ints_any _ _ vC vD _ (hvC.old hoD) hvD).mono ?_
  rw [eqB_self]
  rintro e wE ⟨rfl, hoE⟩
  go_wp2_with fail
  have hoE' := ((hoB.trans hoC).trans hoD).trans hoE
  clear hoB hoC hoD hoE hvC hvD
  refine (Calls.old hoE' (twin_any t v _ (hT'.out.old hoE') hz')).mono ?_
  rintro e wF ⟨⟨vF, rfl, hvF⟩, hoF⟩
  go_wp2_with (at_builtin; refine wpList_append_ints (w0 := wF) rfl _ _ 25 rfl 3 Try.underlying25 infoInt _ [] o rfl (World.ownsRow_lit wF #[] 0 (Nat.le_refl _) (by simp) rfl) u rfl (hO'.out.old (hoF.alloc _)) (by simpa using hzo') ((Old.refl wF).alloc _) ?_; intro v' wG hvG hoG' _; have hoG := hoF.trans hoG')
  refine (Shown_any t o vF v' _ (hvF.old hoG') hvG.ints Hob.out).mono ?_
  rintro e wH ⟨⟨vH, rfl, hvH⟩, hoH⟩
  go_wp2_with fail
  refine (rShown_any t o v u _ (hT'.out.old (hoG.trans hoH)) (hO'.out.old (hoG.trans hoH))).mono ?_
  rintro e wI ⟨⟨vI, rfl, hvI⟩, hoI⟩
  go_wp2_with fail
  refine (ints_any _ _ vH vI _ (hvH.old hoI) hvI).mono ?_
  rw [eqB_self]
  rintro e wJ ⟨rfl, hoJ⟩
  go_wp2_with fail
  go_ret
  exact ⟨rfl, ((hoG.trans hoH).trans hoI).trans hoJ⟩
end Go.Proofs.Ytigpjfebnppejaa
