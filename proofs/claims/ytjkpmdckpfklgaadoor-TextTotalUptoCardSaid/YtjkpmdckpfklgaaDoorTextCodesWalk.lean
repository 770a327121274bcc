/-
  TextCodes: the walk of the statement.
-/
import Derived.Test.YtjkpmdckpfklgaaDoorTextAwake
import Derived.Test.YtjkpmdckpfklgaaDoorTextCodesD
namespace Go.Proofs.YtjkpmdckpfklgaaDoor
open Go.RowKit
attribute [local go_sem] Old.refl Old.alloc Old.drew Old.setCell OldW.old

theorem Calls.mild {P : Program} {f : FuncId} {args : Array Value} {w : World} {v : Value} (h : Calls P f args w fun e w' => e = .returned v ∧ w = w') :
    Calls P f args w fun e w' => e = .returned v ∧ Old w w' := h.mono fun _ _ ⟨a, b⟩ => ⟨a, b ▸ Old.refl _⟩
theorem Calls.mild' {P : Program} {f : FuncId} {args : Array Value} {w : World} {v : Value} (h : Calls P f args w fun e w' => e = .returned v ∧ w' = w) :
    Calls P f args w fun e w' => e = .returned v ∧ Old w w' := h.mono fun _ _ ⟨a, b⟩ => ⟨a, b ▸ Old.refl _⟩
set_option maxRecDepth 100000 in
set_option maxHeartbeats 1600000 in
theorem textCodes_row_walk (W : World) (hT : Tabs W) (r : Int) (hr : -2147483648 ≤ r ∧ r ≤ 2147483647) :
    Calls Tryd.prog 3 #[.int .i32 r] W fun e w' => e = .returned (.bool true) ∧ Old W w' := by
  have H1 := Lib.hid (fun (V : OldW W) => Width_any r V.w' hr)
  have H2 := Lib.hid (fun (V : OldW W) => Calls.mild (RWidth_any r V.w'))
  have H3 := Lib.hid (fun (V : OldW W) => Calls.mild (Small_any r V.w' hr))
  have H4 := Lib.hid (fun (V : OldW W) => Calls.mild (RSmall_any r V.w' hr))
  have H5 := Lib.hid (fun (V : OldW W) => Calls.mild (Base_any r V.w' hr))
  have H6 := Lib.hid (fun (V : OldW W) => Calls.mild (RBase_any r V.w' hr))
  have H7 := Lib.hid (fun (V : OldW W) => awake_any V.w' (hT.old V.old))
  clear hr
  generalize widC r = n at *
  generalize smallC r = s at *
  generalize baseC r = b at *
  go_enter Tryd.func3, Tryd.ntmps3
  go_upto_region 1 with fail
  refine wp_region_mild (Old.refl _) ?_
  repeat (go_big_quiet_step (first | with_reducible exact Calls.in_old (H1.out _) | with_reducible exact Calls.in_old (H2.out _) | with_reducible exact Calls.in_old (H3.out _) | with_reducible exact Calls.in_old (H4.out _) | with_reducible exact Calls.in_old (H5.out _) | with_reducible exact Calls.in_old (H6.out _) | with_reducible exact Calls.in_old (H7.out _)))
  refine wpQuiet_nil ?_
  rintro ⟨wq, hq⟩
  dsimp only
  go_wp2_with fail
  go_ret
  exact ⟨rfl, hq⟩
end Go.Proofs.YtjkpmdckpfklgaaDoor
