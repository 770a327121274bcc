/-
  WALKS F: Up.
-/
import Derived.Test.YtigpjfebnppejaaTocWalksE
namespace Go.Proofs.Ytigpjfebnppejaa
open Go.RowKit Go.Maps
attribute [local go_sem] Old.refl Old.alloc Old.drew Old.setCell OldW.old

theorem ret_up {t : List (Int × Int)} {x a b : Int} (h : upT t x = (a, b)) : Ending.returned (.tuple #[.int .i64 a, .int .i64 b]) = .returned (.tuple #[.int .i64 (upT t x).1, .int .i64 (upT t x).2]) := by rw [h]
set_option maxHeartbeats 400000 in
theorem Up_any (t : List (Int × Int)) (x : Int) (v : Value) (w : World) (hT : Prs w v t) :
    Calls Try.prog 18 #[v, .int .i64 x] w fun e w' => e = .returned (.tuple #[.int .i64 (upT t x).1, .int .i64 (upT t x).2]) ∧ Old w w' := by
  have HPath := Lib.hid (Path_any t x v w hT)
  clear hT
  by_cases he : (pathT t x).2 = 0
  · have he1 : ((pathT t x).2 != 0) = false := by simp [he]
    have He := Lib.hid he
    clear he
    by_cases hl : (pathT t x).1.length < 2
    · have Hs := Lib.hid (show upT t x = (0, 3) by rw [upT, if_pos He.out, if_pos (by omega)])
      go_enter Try.func18, Try.ntmps18
      go_wp2_with (go_at_call 17; refine HPath.out.mono ?_; rintro e w1 ⟨⟨v1, rfl, hv1⟩, ho1⟩; obtain ⟨a1, c1, rfl, hc1, hc2⟩ := hv1.form)
      go_ret2
      exact ⟨ret_up Hs.out, ho1⟩
    · have Hs := Lib.hid (show upT t x = (ix (pathT t x).1 ((pathT t x).1.length - 2), 0) by rw [upT, if_pos He.out, if_neg (by omega)])
      go_enter Try.func18, Try.ntmps18
      go_wp2_with (go_at_call 17; refine HPath.out.mono ?_; rintro e w1 ⟨⟨v1, rfl, hv1⟩, ho1⟩; obtain ⟨a1, c1, b1, off1, rfl, hc1, hc2, ha1, hx1⟩ := hv1; have g1 := hx1 ((pathT t x).1.length - 2) (by omega); obtain rfl := ha1 (by omega))
      go_ret2
      exact ⟨ret_up Hs.out, ho1⟩
  · have he1 : ((pathT t x).2 != 0) = true := by simpa using he
    have Hs := Lib.hid (show upT t x = (0, (pathT t x).2) by rw [upT, if_neg he])
    go_enter Try.func18, Try.ntmps18
    go_wp2_with (go_at_call 17; refine HPath.out.mono ?_; rintro e w1 ⟨⟨v1, rfl, hv1⟩, ho1⟩)
    go_ret2
    exact ⟨ret_up Hs.out, ho1⟩
end Go.Proofs.Ytigpjfebnppejaa
