/-
  THE SHELF's CONTRACTS OF slices.SortFunc AT STRINGS, laid by the shelf's own tools (lay-shelf.mjs, lay-plain.mjs).
-/
import Derived.Ground.SlsfProg
import Derived.Shelf.SlSortCmp.NoneTotal
import Derived.Test.YtohngjkedhpikaaGreatDoorProg
import Derived.Shelf.SlSortCmp.WholeK
import Derived.Test.YtohngjkedhpikaaGreatDoorZBase
import GoSem.Step
import Derived.Sort.Grow
namespace Go.Proofs
open Go.Shelf
def Tryz.laysSlF6_str_ren : Go.Shelf.Ren := ⟨fun | 6 => 45 | 15 => 88 | 14 => 89 | 28 => 126 | 29 => 127 | 20 => 128 | 21 => 129 | 22 => 130 | 23 => 131 | 24 => 132 | 25 => 133 | 26 => 134 | 27 => 135 | 46 => 167 | 47 => 163 | 48 => 164 | 49 => 168 | 50 => 169 | 57 => 183 | n => n, fun | 22 => 43 | 24 => 9 | 25 => 59 | 3 => 3 | 39 => 135 | 0 => 0 | 53 => 183 | 55 => 185 | 4 => 4 | 46 => 177 | 45 => 176 | 50 => 173 | 5 => 5 | 9 => 9 | 66 => 219 | 70 => 223 | 76 => 245 | 77 => 63 | n => n, fun | n => n⟩
theorem Tryz.laysSlF6_str : Go.Proofs.SlLaysF.n6 Tryz.prog Tryz.laysSlF6_str_ren := {
  mixed := by kernel_rfl
  f6 := ⟨Tryz.f45.name, by decide, Tryz.func45.trans (congrArg some (by kernel_rfl))⟩
  f14 := ⟨Tryz.f89.name, by decide, Tryz.func89.trans (congrArg some (by kernel_rfl))⟩
  f15 := Tryz.func88.trans (congrArg some (by kernel_rfl))
  f20 := ⟨Tryz.f128.name, by decide, Tryz.func128.trans (congrArg some (by kernel_rfl))⟩
  f21 := ⟨Tryz.f129.name, by decide, Tryz.func129.trans (congrArg some (by kernel_rfl))⟩
  f22 := ⟨Tryz.f130.name, by decide, Tryz.func130.trans (congrArg some (by kernel_rfl))⟩
  f23 := ⟨Tryz.f131.name, by decide, Tryz.func131.trans (congrArg some (by kernel_rfl))⟩
  f24 := ⟨Tryz.f132.name, by decide, Tryz.func132.trans (congrArg some (by kernel_rfl))⟩
  f25 := ⟨Tryz.f133.name, by decide, Tryz.func133.trans (congrArg some (by kernel_rfl))⟩
  f26 := ⟨Tryz.f134.name, by decide, Tryz.func134.trans (congrArg some (by kernel_rfl))⟩
  f27 := ⟨Tryz.f135.name, by decide, Tryz.func135.trans (congrArg some (by kernel_rfl))⟩
  f28 := Tryz.func126.trans (congrArg some (by kernel_rfl))
  f29 := Tryz.func127.trans (congrArg some (by kernel_rfl))
  f46 := ⟨Tryz.f167.name, by decide, Tryz.func167.trans (congrArg some (by kernel_rfl))⟩
  f47 := Tryz.func163.trans (congrArg some (by kernel_rfl))
  f48 := Tryz.func164.trans (congrArg some (by kernel_rfl))
  f49 := ⟨Tryz.f168.name, by decide, Tryz.func168.trans (congrArg some (by kernel_rfl))⟩
  f50 := ⟨Tryz.f169.name, by decide, Tryz.func169.trans (congrArg some (by kernel_rfl))⟩
  f57 := ⟨Tryz.f183.name, by decide, Tryz.func183.trans (congrArg some (by kernel_rfl))⟩
  t0 := Tryz.underlying0
  a0 := Tryz.isAgg0
  z0 := Tryz.sizeOf0
  v0 := Tryz.zeroValue0
  t3 := Tryz.underlying3
  a3 := Tryz.isAgg3
  z3 := Tryz.sizeOf3
  v3 := Tryz.zeroValue3
  t4 := Tryz.underlying4
  a4 := Tryz.isAgg4
  z4 := Tryz.sizeOf4
  v4 := Tryz.zeroValue4
  t5 := Tryz.underlying5
  a5 := Tryz.isAgg5
  z5 := Tryz.sizeOf5
  v5 := Tryz.zeroValue5
  t9 := Tryz.underlying9
  a9 := Tryz.isAgg9
  z9 := Tryz.sizeOf9
  v9 := Tryz.zeroValue9
  t22 := Tryz.underlying43
  a22 := Tryz.isAgg43
  z22 := Tryz.sizeOf43
  v22 := Tryz.zeroValue43
  a24 := Tryz.isAgg9
  z24 := Tryz.sizeOf9
  t25 := Tryz.underlying59
  a25 := Tryz.isAgg59
  z25 := Tryz.sizeOf59
  v25 := Tryz.zeroValue59
  t39 := Tryz.underlying135
  a39 := Tryz.isAgg135
  z39 := Tryz.sizeOf135
  v39 := Tryz.zeroValue135
  t45 := Tryz.underlying176
  a45 := Tryz.isAgg176
  z45 := Tryz.sizeOf176
  v45 := Tryz.zeroValue176
  t46 := Tryz.underlying177
  a46 := Tryz.isAgg177
  z46 := Tryz.sizeOf177
  v46 := Tryz.zeroValue177
  t50 := Tryz.underlying173
  a50 := Tryz.isAgg173
  z50 := Tryz.sizeOf173
  v50 := Tryz.zeroValue173
  t53 := Tryz.underlying183
  a53 := Tryz.isAgg183
  z53 := Tryz.sizeOf183
  v53 := Tryz.zeroValue183
  t55 := Tryz.underlying185
  a55 := Tryz.isAgg185
  z55 := Tryz.sizeOf185
  v55 := Tryz.zeroValue185
  t66 := Tryz.underlying219
  a66 := Tryz.isAgg219
  z66 := Tryz.sizeOf219
  v66 := Tryz.zeroValue219
  t70 := Tryz.underlying223
  a70 := Tryz.isAgg223
  z70 := Tryz.sizeOf223
  v70 := Tryz.zeroValue223
  t76 := Tryz.underlying245
  a76 := Tryz.isAgg245
  z76 := Tryz.sizeOf245
  v76 := Tryz.zeroValue245
  t77 := Tryz.underlying63
  a77 := Tryz.isAgg63
  z77 := Tryz.sizeOf63
  v77 := Tryz.zeroValue63 }
open Go.RowKit Go.Lib Go.Sort in
/-- **slices.SortFunc, IN THE DOCUMENTATION's OWN TERMS: A PERMUTATION OF WHAT THE ROW HELD, SORTED BY 'cmp(a, b) < 0'.** Which of two equals comes first is left open ("The sort is not guaranteed to be stable"). (LAID AT THE INSTANCE 'slices.SortFunc[[]string,string]': no walk: one application.) -/
theorem Tryz.slices_SortFunc_str {α : Type} [Inhabited α] (enc : α → Value) (h1 : OneCell enc) (cf : α → α → Int) (hO : SWO (ltOf cf)) (g : Nat) (cb : Array Value) (blk off cap : Nat) (d : Array α) (w : World) (eg : ∀ args w, (callFunc g args).run Tryz.prog w = .ok (.enter g args) w) (hcmp : CmpLays1 Tryz.prog g cb enc cf blk off d.size w) (hH : Holds enc w blk off d) (hblk : blk < w.heap.size) (hsz : d.size < 4611686018427387904) :
    Calls Tryz.prog 45 #[.slice (some ⟨blk, off, none⟩) d.size cap, .func (.func g) #[] cb] w fun e w' =>
      e = .returned (.tuple #[]) ∧ ∃ d' n os, PermIn 0 d.size d d' ∧ SortedIn (ltOf cf) 0 d.size d' ∧ w' = sortWorld enc w blk off n d' os := Any.slices_SortFunc Tryz.laysSlF6_str enc h1 cf hO g cb blk off cap d w eg hcmp hH hblk hsz
def Tryz.laysSlF06_str_ren : Go.Shelf.Ren := ⟨fun | 6 => 45 | 15 => 88 | 14 => 89 | 28 => 126 | 29 => 127 | 20 => 128 | 21 => 129 | 22 => 130 | 23 => 131 | 24 => 132 | 25 => 133 | 26 => 134 | 27 => 135 | 46 => 167 | 47 => 163 | 48 => 164 | 49 => 168 | 50 => 169 | 57 => 183 | n => n, fun | 22 => 43 | 24 => 9 | 25 => 59 | 3 => 3 | 39 => 135 | 0 => 0 | 53 => 183 | 55 => 185 | 4 => 4 | 46 => 177 | 45 => 176 | 50 => 173 | 5 => 5 | 9 => 9 | 66 => 219 | 70 => 223 | 76 => 245 | 77 => 63 | n => n, fun | n => n⟩
theorem Tryz.laysSlF06_str : Go.Proofs.SlLaysF0.n6 Tryz.prog Tryz.laysSlF06_str_ren := {
  mixed := by kernel_rfl
  f6 := ⟨Tryz.f45.name, by decide, Tryz.func45.trans (congrArg some (by kernel_rfl))⟩
  f14 := ⟨Tryz.f89.name, by decide, Tryz.func89.trans (congrArg some (by kernel_rfl))⟩
  f15 := Tryz.func88.trans (congrArg some (by kernel_rfl))
  f20 := ⟨Tryz.f128.name, by decide, Tryz.func128.trans (congrArg some (by kernel_rfl))⟩
  f21 := ⟨Tryz.f129.name, by decide, Tryz.func129.trans (congrArg some (by kernel_rfl))⟩
  f22 := ⟨Tryz.f130.name, by decide, Tryz.func130.trans (congrArg some (by kernel_rfl))⟩
  f23 := ⟨Tryz.f131.name, by decide, Tryz.func131.trans (congrArg some (by kernel_rfl))⟩
  f24 := ⟨Tryz.f132.name, by decide, Tryz.func132.trans (congrArg some (by kernel_rfl))⟩
  f25 := ⟨Tryz.f133.name, by decide, Tryz.func133.trans (congrArg some (by kernel_rfl))⟩
  f26 := ⟨Tryz.f134.name, by decide, Tryz.func134.trans (congrArg some (by kernel_rfl))⟩
  f27 := ⟨Tryz.f135.name, by decide, Tryz.func135.trans (congrArg some (by kernel_rfl))⟩
  f28 := Tryz.func126.trans (congrArg some (by kernel_rfl))
  f29 := Tryz.func127.trans (congrArg some (by kernel_rfl))
  f46 := ⟨Tryz.f167.name, by decide, Tryz.func167.trans (congrArg some (by kernel_rfl))⟩
  f47 := Tryz.func163.trans (congrArg some (by kernel_rfl))
  f48 := Tryz.func164.trans (congrArg some (by kernel_rfl))
  f49 := ⟨Tryz.f168.name, by decide, Tryz.func168.trans (congrArg some (by kernel_rfl))⟩
  f50 := ⟨Tryz.f169.name, by decide, Tryz.func169.trans (congrArg some (by kernel_rfl))⟩
  f57 := ⟨Tryz.f183.name, by decide, Tryz.func183.trans (congrArg some (by kernel_rfl))⟩
  t0 := Tryz.underlying0
  a0 := Tryz.isAgg0
  z0 := Tryz.sizeOf0
  v0 := Tryz.zeroValue0
  t3 := Tryz.underlying3
  a3 := Tryz.isAgg3
  z3 := Tryz.sizeOf3
  v3 := Tryz.zeroValue3
  t4 := Tryz.underlying4
  a4 := Tryz.isAgg4
  z4 := Tryz.sizeOf4
  v4 := Tryz.zeroValue4
  t5 := Tryz.underlying5
  a5 := Tryz.isAgg5
  z5 := Tryz.sizeOf5
  v5 := Tryz.zeroValue5
  t9 := Tryz.underlying9
  a9 := Tryz.isAgg9
  z9 := Tryz.sizeOf9
  v9 := Tryz.zeroValue9
  t22 := Tryz.underlying43
  a22 := Tryz.isAgg43
  z22 := Tryz.sizeOf43
  v22 := Tryz.zeroValue43
  t25 := Tryz.underlying59
  a25 := Tryz.isAgg59
  z25 := Tryz.sizeOf59
  v25 := Tryz.zeroValue59
  t39 := Tryz.underlying135
  a39 := Tryz.isAgg135
  z39 := Tryz.sizeOf135
  v39 := Tryz.zeroValue135
  t45 := Tryz.underlying176
  a45 := Tryz.isAgg176
  z45 := Tryz.sizeOf176
  v45 := Tryz.zeroValue176
  t46 := Tryz.underlying177
  a46 := Tryz.isAgg177
  z46 := Tryz.sizeOf177
  v46 := Tryz.zeroValue177
  t50 := Tryz.underlying173
  a50 := Tryz.isAgg173
  z50 := Tryz.sizeOf173
  v50 := Tryz.zeroValue173
  t53 := Tryz.underlying183
  a53 := Tryz.isAgg183
  z53 := Tryz.sizeOf183
  v53 := Tryz.zeroValue183
  t55 := Tryz.underlying185
  a55 := Tryz.isAgg185
  z55 := Tryz.sizeOf185
  v55 := Tryz.zeroValue185
  t66 := Tryz.underlying219
  a66 := Tryz.isAgg219
  z66 := Tryz.sizeOf219
  v66 := Tryz.zeroValue219
  t70 := Tryz.underlying223
  a70 := Tryz.isAgg223
  z70 := Tryz.sizeOf223
  v70 := Tryz.zeroValue223
  t76 := Tryz.underlying245
  a76 := Tryz.isAgg245
  z76 := Tryz.sizeOf245
  v76 := Tryz.zeroValue245
  t77 := Tryz.underlying63
  a77 := Tryz.isAgg63
  z77 := Tryz.sizeOf63
  v77 := Tryz.zeroValue63 }
open Go.RowKit Go.Lib Go.Sort in
/-- **slices.SortFunc AT NO ELEMENT, A nil SLICE TOO: nothing turns.** (LAID AT THE INSTANCE 'slices.SortFunc[[]string,string]': no walk: one application.) -/
theorem Tryz.slices_SortFunc_none_str {α : Type} [Inhabited α] (p : Option Addr) (cap : Nat) (fv : Value) (w : World) :
    Calls Tryz.prog 45 #[.slice p 0 cap, fv] w fun e w' => e = .returned (.tuple #[]) ∧ w' = w := AnyF.slices_SortFunc_none Tryz.laysSlF06_str p cap fv w
end Go.Proofs
/-
  THE SHELF's CONTRACTS OF slices.SortFunc AT PLACES, laid by the shelf's own tools (lay-shelf.mjs, lay-plain.mjs).
-/




namespace Go.Proofs
open Go.Shelf
def Tryz.laysSlF06_pl_ren : Go.Shelf.Ren := ⟨fun | 6 => 43 | 15 => 88 | 14 => 87 | 28 => 126 | 29 => 127 | 20 => 118 | 21 => 119 | 22 => 120 | 23 => 121 | 24 => 122 | 25 => 123 | 26 => 124 | 27 => 125 | 46 => 162 | 47 => 163 | 48 => 164 | 49 => 165 | 50 => 166 | 57 => 182 | n => n, fun | 22 => 87 | 24 => 89 | 25 => 91 | 3 => 3 | 39 => 135 | 0 => 0 | 53 => 183 | 55 => 185 | 4 => 4 | 46 => 177 | 45 => 176 | 50 => 173 | 5 => 5 | 9 => 9 | 66 => 219 | 70 => 223 | 76 => 245 | 77 => 63 | n => n, fun | n => n⟩
theorem Tryz.laysSlF06_pl : Go.Proofs.SlLaysF0.n6 Tryz.prog Tryz.laysSlF06_pl_ren := {
  mixed := by kernel_rfl
  f6 := ⟨Tryz.f43.name, by decide, Tryz.func43.trans (congrArg some (by kernel_rfl))⟩
  f14 := ⟨Tryz.f87.name, by decide, Tryz.func87.trans (congrArg some (by kernel_rfl))⟩
  f15 := Tryz.func88.trans (congrArg some (by kernel_rfl))
  f20 := ⟨Tryz.f118.name, by decide, Tryz.func118.trans (congrArg some (by kernel_rfl))⟩
  f21 := ⟨Tryz.f119.name, by decide, Tryz.func119.trans (congrArg some (by kernel_rfl))⟩
  f22 := ⟨Tryz.f120.name, by decide, Tryz.func120.trans (congrArg some (by kernel_rfl))⟩
  f23 := ⟨Tryz.f121.name, by decide, Tryz.func121.trans (congrArg some (by kernel_rfl))⟩
  f24 := ⟨Tryz.f122.name, by decide, Tryz.func122.trans (congrArg some (by kernel_rfl))⟩
  f25 := ⟨Tryz.f123.name, by decide, Tryz.func123.trans (congrArg some (by kernel_rfl))⟩
  f26 := ⟨Tryz.f124.name, by decide, Tryz.func124.trans (congrArg some (by kernel_rfl))⟩
  f27 := ⟨Tryz.f125.name, by decide, Tryz.func125.trans (congrArg some (by kernel_rfl))⟩
  f28 := Tryz.func126.trans (congrArg some (by kernel_rfl))
  f29 := Tryz.func127.trans (congrArg some (by kernel_rfl))
  f46 := ⟨Tryz.f162.name, by decide, Tryz.func162.trans (congrArg some (by kernel_rfl))⟩
  f47 := Tryz.func163.trans (congrArg some (by kernel_rfl))
  f48 := Tryz.func164.trans (congrArg some (by kernel_rfl))
  f49 := ⟨Tryz.f165.name, by decide, Tryz.func165.trans (congrArg some (by kernel_rfl))⟩
  f50 := ⟨Tryz.f166.name, by decide, Tryz.func166.trans (congrArg some (by kernel_rfl))⟩
  f57 := ⟨Tryz.f182.name, by decide, Tryz.func182.trans (congrArg some (by kernel_rfl))⟩
  t0 := Tryz.underlying0
  a0 := Tryz.isAgg0
  z0 := Tryz.sizeOf0
  v0 := Tryz.zeroValue0
  t3 := Tryz.underlying3
  a3 := Tryz.isAgg3
  z3 := Tryz.sizeOf3
  v3 := Tryz.zeroValue3
  t4 := Tryz.underlying4
  a4 := Tryz.isAgg4
  z4 := Tryz.sizeOf4
  v4 := Tryz.zeroValue4
  t5 := Tryz.underlying5
  a5 := Tryz.isAgg5
  z5 := Tryz.sizeOf5
  v5 := Tryz.zeroValue5
  t9 := Tryz.underlying9
  a9 := Tryz.isAgg9
  z9 := Tryz.sizeOf9
  v9 := Tryz.zeroValue9
  t22 := Tryz.underlying87
  a22 := Tryz.isAgg87
  z22 := Tryz.sizeOf87
  v22 := Tryz.zeroValue87
  t25 := Tryz.underlying91
  a25 := Tryz.isAgg91
  z25 := Tryz.sizeOf91
  v25 := Tryz.zeroValue91
  t39 := Tryz.underlying135
  a39 := Tryz.isAgg135
  z39 := Tryz.sizeOf135
  v39 := Tryz.zeroValue135
  t45 := Tryz.underlying176
  a45 := Tryz.isAgg176
  z45 := Tryz.sizeOf176
  v45 := Tryz.zeroValue176
  t46 := Tryz.underlying177
  a46 := Tryz.isAgg177
  z46 := Tryz.sizeOf177
  v46 := Tryz.zeroValue177
  t50 := Tryz.underlying173
  a50 := Tryz.isAgg173
  z50 := Tryz.sizeOf173
  v50 := Tryz.zeroValue173
  t53 := Tryz.underlying183
  a53 := Tryz.isAgg183
  z53 := Tryz.sizeOf183
  v53 := Tryz.zeroValue183
  t55 := Tryz.underlying185
  a55 := Tryz.isAgg185
  z55 := Tryz.sizeOf185
  v55 := Tryz.zeroValue185
  t66 := Tryz.underlying219
  a66 := Tryz.isAgg219
  z66 := Tryz.sizeOf219
  v66 := Tryz.zeroValue219
  t70 := Tryz.underlying223
  a70 := Tryz.isAgg223
  z70 := Tryz.sizeOf223
  v70 := Tryz.zeroValue223
  t76 := Tryz.underlying245
  a76 := Tryz.isAgg245
  z76 := Tryz.sizeOf245
  v76 := Tryz.zeroValue245
  t77 := Tryz.underlying63
  a77 := Tryz.isAgg63
  z77 := Tryz.sizeOf63
  v77 := Tryz.zeroValue63 }
open Go.RowKit Go.Lib Go.Sort in
/-- **slices.SortFunc AT STRUCTS, IN THE DOCUMENTATION's OWN TERMS** (laid: one application). -/
theorem Tryz.slices_SortFunc_pl {α : Type} [Inhabited α] (enc : α → List Value) (hk : ∀ x, (enc x).length = 2) (h1 : ∀ x, ∀ v ∈ enc x, v.oneCell' = true) (cf : α → α → Int) (hO : SWO (ltOf cf)) (g : Nat) (cb : Array Value) (blk off cap : Nat) (d : Array α) (w : World) (eg : ∀ args w, (callFunc g args).run Tryz.prog w = .ok (.enter g args) w) (hcmp : CmpLays Tryz.prog g cb enc 2 cf blk off d.size w) (hH : HoldsK enc 2 w blk off d) (hblk : blk < w.heap.size) (hsz : d.size < 4611686018427387904) :
    Calls Tryz.prog 43 #[.slice (some ⟨blk, off, none⟩) d.size cap, .func (.func g) #[] cb] w fun e w' =>
      e = .returned (.tuple #[]) ∧ ∃ d' n os, PermIn 0 d.size d d' ∧ SortedIn (ltOf cf) 0 d.size d' ∧ w' = sortWorldK enc 2 w blk off n d' os := AnyQ.slices_SortFunc Tryz.laysSlF06_pl 2 Tryz.isAgg89 Tryz.sizeOf89 enc hk h1 cf hO g cb blk off cap d w eg hcmp hH hblk hsz
open Go.RowKit Go.Lib Go.Sort in
/-- **slices.SortFunc AT NO ELEMENT, A nil SLICE TOO: nothing turns.** (LAID AT THE INSTANCE 'slices.SortFunc[[]folio/keyword.place,folio/keyword.place]': no walk: one application.) -/
theorem Tryz.slices_SortFunc_none_pl {α : Type} [Inhabited α] (p : Option Addr) (cap : Nat) (fv : Value) (w : World) :
    Calls Tryz.prog 43 #[.slice p 0 cap, fv] w fun e w' => e = .returned (.tuple #[]) ∧ w' = w := AnyF.slices_SortFunc_none Tryz.laysSlF06_pl p cap fv w
end Go.Proofs
/-
  DRAWS ONLY GROW, over no program: no step of the machine lowers how often the tape has been asked.
-/


namespace Go.Proofs.YtohngjkedhpikaaGreatDoor
open Go

theorem ask_drawn {α : Type} (k : Ask α) : ∀ w : World, w.drawn ≤ (w.ask k).2.drawn := by
  induction k with
  | done a => intro w; exact Nat.le_refl _
  | ask what range k ih =>
    intro w
    unfold World.ask
    dsimp only
    split
    · exact ih _ _
    · exact Nat.le_trans (Nat.le_succ _) (ih _ { w with drawn := w.drawn + 1 })
theorem sys_drawn (w : World) (c : Sys) : w.drawn ≤ (w.sys c).2.drawn := by
  have h := ask_drawn (Kernel.perform c w.os) w
  unfold World.sys
  split
  · exact Nat.le_refl _
  · rename_i heq
    rw [heq] at h
    exact h
theorem viewStore_drawn {p : Program} {w w' : World} {at_ k : Addr} {u : TypeId} {v : Value} {atomic : Bool} {l : List Addr} (h : w.viewStore p at_ u k v atomic = .ok (w', l)) : w'.drawn = w.drawn := by
  unfold World.viewStore at h
  simp only [bind, Except.bind, pure, Except.pure] at h
  repeat' split at h
  all_goals first
    | (cases h; done)
    | (cases h; rfl)
theorem farStore_drawn {p : Program} {w w' : World} {a : Addr} {v : Value} {atomic : Bool} {l : List Addr} (h : w.farStore p a v atomic = .ok (w', l)) : w'.drawn = w.drawn := by
  unfold World.farStore at h
  split at h
  · split at h
    · rename_i r hr
      injection h with h
      subst h
      exact viewStore_drawn hr
    · cases h
  · cases h
def resD (d : Nat) {α : Type} : Result α → Prop
  | .ok _ w => d ≤ w.drawn
  | .halt _ w => d ≤ w.drawn
theorem resD.le {d e : Nat} {α : Type} {r : Result α} (h : resD e r) (hd : d ≤ e) : resD d r := by
  cases r <;> exact Nat.le_trans hd h
theorem setCell_drawn (w : World) (a : Addr) (v : Value) : (w.setCell a v).drawn = w.drawn := rfl
theorem freeze_drawn (w : World) (a : Addr) (n : Nat) : (w.freeze a n).drawn = w.drawn := by
  unfold World.freeze
  split <;> rfl
theorem run_drawn {α : Type} (p : Program) (s : Sem α) : ∀ w : World, resD w.drawn (s.run p w) := by
  induction s with
  | pure a => intro w; exact Nat.le_refl _
  | load m a k ih =>
    intro w
    simp only [Sem.run]
    split
    · exact ih _ _
    · split
      · exact ih _ _
      · exact Nat.le_refl _
  | store m a v k ih =>
    intro w
    cases v <;> simp only [Sem.run] <;> first
      | exact Nat.le_refl w.drawn
      | (split
         · split
           · exact Nat.le_refl w.drawn
           · exact ih (w.setCell a _)
         · split
           · rename_i w' l h
             exact (ih w').le (Nat.le_of_eq (farStore_drawn h).symm)
           · exact Nat.le_refl w.drawn)
  | new o k ih => intro w; exact ih _ _
  | shape r k ih => intro w; exact ih _ _
  | freeze a n k ih => intro w; exact (ih (w.freeze a n)).le (Nat.le_of_eq (freeze_drawn w a n).symm)
  | frozen a k ih => intro w; exact ih _ _
  | getObj r k ih =>
    intro w
    simp only [Sem.run]
    split
    · exact Nat.le_refl _
    · exact ih _ _
    · exact Nat.le_refl _
  | setObj r o k ih =>
    intro w
    simp only [Sem.run]
    split
    · exact Nat.le_refl _
    · exact ih { w with heap := w.heap.setIfInBounds r o }
    · exact Nat.le_refl _
  | choose q k ih =>
    intro w
    simp only [Sem.run]
    split
    · exact ih _ _
    · exact (ih _ { w with drawn := w.drawn + 1 }).le (Nat.le_succ _)
  | sys c k ih => intro w; exact (ih _ (w.sys c).2).le (sys_drawn w c)
  | program k ih => intro w; exact ih _ _
  | mark m k ih => intro w; exact ih _
  | halt h => intro w; exact Nat.le_refl _
theorem runT_drawn {α : Type} (p : Program) (s : Sem α) : ∀ (w : World) (es : Array Event), resD w.drawn (s.runT p w es).1 := by
  induction s with
  | pure a => intro w es; exact Nat.le_refl _
  | load m a k ih =>
    intro w es
    simp only [Sem.runT]
    split
    · exact ih _ _ _
    · split
      · exact ih _ _ _
      · exact Nat.le_refl _
  | store m a v k ih =>
    intro w es
    cases v <;> simp only [Sem.runT] <;> first
      | exact Nat.le_refl w.drawn
      | (split
         · split
           · exact Nat.le_refl w.drawn
           · exact ih (w.setCell a _) _
         · split
           · rename_i w' l h
             exact (ih w' _).le (Nat.le_of_eq (farStore_drawn h).symm)
           · exact Nat.le_refl w.drawn)
  | new o k ih => intro w es; exact ih _ _ _
  | shape r k ih => intro w es; exact ih _ _ _
  | freeze a n k ih => intro w es; exact (ih (w.freeze a n) _).le (Nat.le_of_eq (freeze_drawn w a n).symm)
  | frozen a k ih => intro w es; exact ih _ _ _
  | getObj r k ih =>
    intro w es
    simp only [Sem.runT]
    split
    · exact Nat.le_refl _
    · exact ih _ _ _
    · exact Nat.le_refl _
  | setObj r o k ih =>
    intro w es
    simp only [Sem.runT]
    split
    · exact Nat.le_refl _
    · exact ih { w with heap := w.heap.setIfInBounds r o } _
    · exact Nat.le_refl _
  | choose q k ih =>
    intro w es
    simp only [Sem.runT]
    split
    · exact ih _ _ _
    · exact (ih _ { w with drawn := w.drawn + 1 } _).le (Nat.le_succ _)
  | sys c k ih => intro w es; exact (ih _ (w.sys c).2 _).le (sys_drawn w c)
  | program k ih => intro w es; exact ih _ _ _
  | mark m k ih => intro w es; exact ih _ _
  | halt h => intro w es; exact Nat.le_refl _
theorem run_ok {α : Type} {p : Program} {s : Sem α} {w w' : World} {a : α} (h : s.run p w = .ok a w') : w.drawn ≤ w'.drawn := by
  have := run_drawn p s w
  rw [h] at this
  exact this
theorem runT_ok {α : Type} {p : Program} {s : Sem α} {w w' : World} {a : α} {es es' : Array Event} (h : s.runT p w es = (.ok a w', es')) : w.drawn ≤ w'.drawn := by
  have := runT_drawn p s w es
  rw [h] at this
  exact this
theorem runT_halt {α : Type} {p : Program} {s : Sem α} {w w' : World} {a : Halt} {es es' : Array Event} (h : s.runT p w es = (.halt a w', es')) : w.drawn ≤ w'.drawn := by
  have := runT_drawn p s w es
  rw [h] at this
  exact this
/-! ### a goroutine's step -/
def gD (d : Nat) : GStep → Prop
  | .go _ w _ => d ≤ w.drawn
  | .comm _ _ _ _ w _ => d ≤ w.drawn
  | .spawn _ _ w _ => d ≤ w.drawn
  | .count _ w _ => d ≤ w.drawn
  | .timer _ _ w _ => d ≤ w.drawn
  | .alone _ _ w _ => d ≤ w.drawn
  | .newcoro _ _ _ w _ => d ≤ w.drawn
  | .coroswitch _ _ _ w _ => d ≤ w.drawn
  | .collect _ w _ => d ≤ w.drawn
  | .watch _ w _ => d ≤ w.drawn
  | .ended _ _ _ => True
theorem gD.le {d e : Nat} {s : GStep} (h : gD e s) (hd : d ≤ e) : gD d s := by
  cases s <;> first | exact Nat.le_trans hd h | trivial
theorem gD.after {d : Nat} {s : GStep} (es : Array Event) (h : gD d s) : gD d (s.after es) := by
  cases s <;> exact h
theorem endWith_drawn (w : World) (fd : Nat) (text : ByteArray) (o : Outcome) (d : Nat) : gD d (endWith w fd text o) := by
  unfold endWith
  dsimp only
  split
  · split <;> trivial
  · trivial
  · trivial
theorem endThrow_drawn (fr : Frame) (m : String) (w : World) : gD w.drawn (endThrow fr m w) := Nat.le_refl _
theorem endPrinting_drawn (p : Program) (fr : Frame) (v : Value) (w : World) : gD w.drawn (endPrinting p fr v w) := by
  unfold endPrinting
  dsimp only
  split
  · exact endThrow_drawn _ _ _
  · trivial
theorem endFatal_drawn (p : Program) (fr : Frame) (callers : List Frame) (dying : Option Dying) (m : String) (w : World) : gD w.drawn (endFatal p fr callers dying m w) := by
  unfold endFatal
  dsimp only
  split
  · rename_i heq
    exact run_ok heq
  · trivial
  · trivial
theorem writeOn_drawn (p : Program) (fr : Frame) (d : Dying) (f : Fatal) (w : World) : gD w.drawn (writeOn p fr d f w) := by
  unfold writeOn
  dsimp only
  split
  · trivial
  · split
    · rename_i heq
      exact runT_ok heq
    · rename_i heq
      exact runT_halt heq
    · trivial
    · trivial
end Go.Proofs.YtohngjkedhpikaaGreatDoor
/-
  DRAWS ONLY GROW, over no program: a goroutine's step, the machine's step, a call.
-/

namespace Go.Proofs.YtohngjkedhpikaaGreatDoor
open Go

theorem die_drawn (p : Program) (fr : Frame) (d : Dying) (w : World) : gD w.drawn (die p fr d w) := by
  unfold die
  split
  · exact writeOn_drawn _ _ _ _ _
  · split
    · split
      · exact Nat.le_refl _
      · exact endWith_drawn _ _ _ _ _
    · dsimp only
      split
      · exact Nat.le_refl _
      · split
        · rename_i heq
          exact run_ok heq
        · trivial
      · refine gD.after _ ?_
        rename_i t recv name _
        have h := runT_drawn p (invoke (.fn (.method name) #[]) #[.iface t recv]) w #[]
        generalize (invoke (.fn (.method name) #[]) #[.iface t recv]).runT p w #[] = re at *
        obtain ⟨r, es⟩ := re
        dsimp only at h ⊢
        split
        · exact h
        · exact h
        · trivial
        · exact (endPrinting_drawn _ _ _ _).le h
        · trivial
      · trivial
theorem doReturn_drawn (p : Program) (main : Bool) (fr : Frame) (callers : List Frame) (dying : Option Dying) (v : Value) (w : World) : gD w.drawn (doReturn p main fr callers dying v w) := by
  unfold doReturn
  repeat' (first | exact Nat.le_refl _ | trivial | split | dsimp only)
theorem callDeferred_drawn (p : Program) (fr : Frame) (callers : List Frame) (dying : Option Dying) (d : Deferred) (w : World) : gD w.drawn (callDeferred p fr callers dying d w) := by
  unfold callDeferred
  refine iteInduction (motive := gD w.drawn) (fun _ => trivial) (fun _ => ?_)
  have h := runT_drawn p (invoke d.target d.args) w #[]
  generalize (invoke d.target d.args).runT p w #[] = re at *
  obtain ⟨r, es⟩ := re
  dsimp only at h ⊢
  refine gD.after _ ?_
  repeat' (first | exact h | trivial | exact (endFatal_drawn _ _ _ _ _ _).le h | exact (endThrow_drawn _ _ _).le h | split)
theorem unwind_drawn (p : Program) (main : Bool) (fr : Frame) (callers : List Frame) (dying : Option Dying) (w : World) : gD w.drawn (unwind p main fr callers dying w) := by
  unfold unwind
  split
  · rename_i block _ _ _
    have h := runT_drawn p (Instr.takeDeferred block) w #[]
    generalize (Instr.takeDeferred block).runT p w #[] = re at *
    obtain ⟨r, es⟩ := re
    dsimp only at h ⊢
    refine gD.after _ ?_
    split
    · exact h
    · trivial
  · exact callDeferred_drawn _ _ _ _ _ _
  · split
    · trivial
    · split
      · trivial
      · split
        · exact Nat.le_refl _
        · split
          · split
            · exact Nat.le_refl _
            · split
              · rename_i heq
                exact run_ok heq
              · trivial
              · trivial
          · split
            · exact endPrinting_drawn _ _ _ _
            · trivial
    · split
      · exact doReturn_drawn _ _ _ _ _ _ _
      · rename_i fn _
        have h := runT_drawn p (results fn fr.tmps) w #[]
        generalize (results fn fr.tmps).runT p w #[] = re at *
        obtain ⟨r, es⟩ := re
        dsimp only at h ⊢
        refine gD.after _ ?_
        split
        · exact (doReturn_drawn _ _ _ _ _ _ _).le h
        · trivial
        · trivial
theorem early_drawn (p : Program) (fr : Frame) (callers : List Frame) (dying : Option Dying) (g : Nat) (w : World) : gD w.drawn (early p fr callers dying g w) := by
  unfold early
  dsimp only
  repeat' (first | exact Nat.le_refl _ | trivial | split | dsimp only)
  all_goals first
    | (rename_i h; have h2 := run_ok h; exact h2)
    | (rename_i h _; have h2 := run_ok h; exact h2)
    | (rename_i h _ _; have h2 := run_ok h; exact h2)
    | (rename_i h _ _ _; have h2 := run_ok h; exact h2)
    | (rename_i h _ _ _ _; have h2 := run_ok h; exact h2)
theorem apply_drawn (p : Program) (listen : Bool) (fr : Frame) (callers : List Frame) (dying : Option Dying) (s : Sem Next) (w : World) : gD w.drawn (stepG.apply p listen fr callers dying s w) := by
  unfold stepG.apply
  have h : resD w.drawn ((if listen = true then s.runT p w #[] else (s.run p w, #[])) : Result Next × Array Event).1 := by
    split
    · exact runT_drawn p s w #[]
    · exact run_drawn p s w
  generalize ((if listen = true then s.runT p w #[] else (s.run p w, #[])) : Result Next × Array Event) = re at *
  obtain ⟨r, es⟩ := re
  dsimp only at h ⊢
  refine gD.after _ ?_
  repeat' (first | exact h | trivial | exact (endFatal_drawn _ _ _ _ _ _).le h | exact (endThrow_drawn _ _ _).le h | exact (early_drawn _ _ _ _ _ _).le h | split)
theorem oper_drawn (p : Program) (listen : Bool) (fr : Frame) (callers : List Frame) (dying : Option Dying) (w : World) : gD w.drawn (stepG.oper p listen fr callers dying w) := by
  unfold stepG.oper
  split
  · trivial
  · split
    · exact apply_drawn _ _ _ _ _ _ _
    · exact apply_drawn _ _ _ _ _ _ _
theorem run_halt {α : Type} {p : Program} {s : Sem α} {w w' : World} {a : Halt} (h : s.run p w = .halt a w') : w.drawn ≤ w'.drawn := by
  have := run_drawn p s w
  rw [h] at this
  exact this
theorem runT_ok1 {α : Type} {p : Program} {s : Sem α} {w w' : World} {a : α} {es : Array Event} (h : (s.runT p w es).1 = .ok a w') : w.drawn ≤ w'.drawn := by
  have := runT_drawn p s w es
  rw [h] at this
  exact this
theorem runT_halt1 {α : Type} {p : Program} {s : Sem α} {w w' : World} {a : Halt} {es : Array Event} (h : (s.runT p w es).1 = .halt a w') : w.drawn ≤ w'.drawn := by
  have := runT_drawn p s w es
  rw [h] at this
  exact this
theorem gD.elim {α : Type} {d : Nat} {o : Option α} {a : GStep} {f : α → GStep} (ha : gD d a) (hf : ∀ x, gD d (f x)) : gD d (o.elim a f) := by
  cases o
  · exact ha
  · exact hf _
theorem exec_drawn (p : Program) (main listen : Bool) (fr : Frame) (callers : List Frame) (dying : Option Dying) (w : World) : gD w.drawn (stepG.exec p main listen fr callers dying w) := by
  unfold stepG.exec
  dsimp only
  repeat' (first
    | exact Nat.le_refl _
    | trivial
    | exact apply_drawn _ _ _ _ _ _ _
    | exact oper_drawn _ _ _ _ _ _
    | split)
  all_goals first
    | (refine gD.after _ ?_; first
        | trivial
        | (rename_i h; have h2 := runT_ok1 h; first | exact h2 | exact (doReturn_drawn _ _ _ _ _ _ _).le h2 | exact (apply_drawn _ _ _ _ _ _ _).le h2)
        | (rename_i h; have h2 := runT_halt1 h; exact h2))
    | (refine gD.elim ?_ (fun _ => by first | exact Nat.le_refl _ | exact apply_drawn _ _ _ _ _ _ _); first
        | trivial
        | (refine gD.after _ ?_; first
            | trivial
            | (rename_i h; have h2 := runT_ok1 h; first | exact h2 | exact (doReturn_drawn _ _ _ _ _ _ _).le h2)))
    | (rename_i h; have h2 := run_ok h; exact h2)
theorem stepG_drawn (p : Program) (main : Bool) (g : Goroutine) (w : World) (listen : Bool) : gD w.drawn (stepG p main g w listen) := by
  unfold stepG
  dsimp only
  split
  · exact die_drawn _ _ _ _
  · exact exec_drawn _ _ _ _ _ _ _
  · exact unwind_drawn _ _ _ _ _ _
/-! ### the machine's step -/
def mD (d : Nat) : Stepped → Prop
  | .next m => d ≤ m.world.drawn
  | _ => True
theorem look_drawn (p : Program) (gs : Array Goroutine) (rest : Rest) (w : World) : mD w.drawn (look p gs rest w) := by
  unfold look
  dsimp only
  repeat' (first
    | exact Nat.le_refl _
    | trivial
    | (rename_i h; have h2 := run_ok h; exact h2)
    | split)
theorem communicate_drawn (p : Program) (rest : Rest) (gs : Array Goroutine) (i : Nat) (g : Goroutine) (cases_ : Array CommCase) (blocking : Bool) (shape : CommShape) (w : World) : mD w.drawn (communicate p rest gs i g cases_ blocking shape w).1 := by
  unfold communicate
  dsimp only
  split
  · trivial
  · split
    · split
      · split
        · rename_i h
          unfold waitingAt at h
          split at h
          · split at h
            · cases h; exact Nat.le_refl _
            · cases h
          · cases h; exact Nat.le_refl _
        · trivial
      · exact Nat.le_refl _
    · split
      · trivial
      · rename_i heq
        have h1 := run_ok heq
        clear heq
        repeat' (first
          | exact h1
          | trivial
          | (rename_i h; have h2 := run_halt h; exact Nat.le_trans h1 h2)
          | (rename_i h; have h2 := run_ok h; exact Nat.le_trans h1 h2)
          | split)
end Go.Proofs.YtohngjkedhpikaaGreatDoor
/-
  DRAWS ONLY GROW, over no program: the machine's step; a call.
-/

namespace Go.Proofs.YtohngjkedhpikaaGreatDoor
open Go

theorem serve_drawn (p : Program) (m : Machine) (k : Nat) : mD m.world.drawn (serve p m k) := by
  unfold serve
  repeat' (first | exact Nat.le_refl _ | trivial | split | dsimp only)
theorem drain_drawn (w : World) (c : Nat) : (drain w c).2.drawn = w.drawn := by
  unfold drain
  split <;> rfl
theorem retime_drawn (m : Machine) (k : Nat) (t : Timer) (a b : Nat) : (retime m k t a b).2.world.drawn = m.world.drawn := by
  unfold retime
  cases t.chan with
  | none => rfl
  | some c => exact drain_drawn _ _
theorem timerOp_drawn {m m' : Machine} {op : TimerOp} {v : Value} (h : timerOp m op = .ok (v, m')) : m'.world.drawn = m.world.drawn := by
  unfold timerOp at h
  split at h
  · split at h
    · cases h; rfl
    · split at h
      · split at h
        · cases h
        · cases h; rfl
      · cases h
  · unfold timerOp.named at h
    split at h
    · have h2 := congrArg (fun r => match r with | Except.ok (x : Value × Machine) => x.2.world.drawn | .error _ => m.world.drawn) h
      simp only at h2
      rw [← h2]
      exact (retime_drawn _ _ _ _ _)
    · cases h
  · split at h
    · rename_i m1 hm
      have hd : m1.world.drawn = m.world.drawn := by
        unfold timerOp.opened at hm
        split at hm
        · split at hm
          · cases hm; rfl
          · cases hm
        · cases hm; rfl
      unfold timerOp.named at h
      split at h
      · have h2 := congrArg (fun r => match r with | Except.ok (x : Value × Machine) => x.2.world.drawn | .error _ => m.world.drawn) h
        simp only at h2
        rw [← h2]
        exact (retime_drawn _ _ _ _ _).trans hd
      · cases h
    · cases h
  · cases h; rfl
theorem mrun_drawn (p : Program) (m : Machine) (i : Nat) (listen : Bool) : mD m.world.drawn (Go.runT p m i listen).1 := by
  unfold Go.runT
  generalize m.gs.swapAt! i _ = sg
  obtain ⟨g, gs⟩ := sg
  dsimp only
  have h := stepG_drawn p (i == 0) g m.world listen
  generalize stepG p (i == 0) g m.world listen = s at *
  cases s with
  | ended o w es => trivial
  | comm g cs bl sh w es =>
    have h2 := communicate_drawn p m.rest gs i g cs bl sh w
    revert h2
    dsimp only
    generalize (communicate p m.rest gs i g cs bl sh w) = r
    obtain ⟨r, more⟩ := r
    intro h2
    cases r with
    | next m' => exact Nat.le_trans h h2
    | ended o w => trivial
  | go g w es => exact h
  | spawn g c w es => exact h
  | count g w es =>
    dsimp only
    split
    · trivial
    · exact h
  | alone g on w es => exact h
  | collect g w es =>
    have h2 := look_drawn p (gs.setIfInBounds i g) m.rest w
    revert h2
    dsimp only
    generalize look p (gs.setIfInBounds i g) m.rest w = r
    intro h2
    cases r with
    | next m' => exact Nat.le_trans h h2
    | ended o w => trivial
  | watch g w es => exact h
  | newcoro g c d w es => exact h
  | coroswitch g c ex w es =>
    dsimp only
    split
    · exact h
    · exact h
    · trivial
  | timer g op w es =>
    dsimp only
    split
    · rename_i heq
      have := timerOp_drawn heq
      exact Nat.le_trans h (Nat.le_of_eq this.symm)
    · exact h
    · trivial
    · trivial
def vD (d : Nat) : Move → Prop
  | .goroutine m _ => d ≤ m.world.drawn
  | .machine s _ => mD d s
theorem mD.le {d e : Nat} {s : Stepped} (h : mD e s) (hd : d ≤ e) : mD d s := by
  cases s <;> first | exact Nat.le_trans hd h | trivial
theorem vD.le {d e : Nat} {s : Move} (h : vD e s) (hd : d ≤ e) : vD d s := by
  cases s
  · exact Nat.le_trans hd h
  · exact mD.le h hd
theorem askOn_drawn (p : Program) (m : Machine) : vD m.world.drawn (askOn p m) := by
  unfold askOn
  dsimp only
  split
  · trivial
  · rename_i heq
    have h1 := run_ok heq
    clear heq
    split
    · exact (serve_drawn _ _ _).le h1
    · repeat' (first
        | exact h1
        | trivial
        | (rename_i h; have h1 := Nat.le_trans h1 (run_ok h); clear h)
        | (rename_i h; have h2 := run_ok h; change World.drawn _ ≤ _ at h2; have h1 := Nat.le_trans (show _ ≤ World.drawn _ from h1) h2; clear h h2)
        | split)
theorem ask_move_drawn (p : Program) (m : Machine) : vD m.world.drawn (Go.ask p m) := by
  unfold Go.ask
  split
  · split
    · trivial
    · rename_i world heq
      have h1 := run_ok heq
      have h2 := look_drawn p m.gs m.rest world
      split
      · rename_i h
        rw [h] at h2
        exact (askOn_drawn _ _).le (Nat.le_trans h1 h2)
      · rename_i h
        exact mD.le h2 h1
    · rename_i heq
      exact (askOn_drawn _ _).le (run_ok heq)
  · exact askOn_drawn _ _
theorem move_drawn (p : Program) (m : Machine) : vD m.world.drawn (Go.move p m) := by
  unfold Go.move
  split
  · split
    · exact Nat.le_refl _
    · trivial
  · split
    · split
      · exact Nat.le_refl _
      · exact ask_move_drawn p _
    · exact ask_move_drawn p _
theorem step_drawn {p : Program} {m m' : Machine} (h : step p m = .next m') : m.world.drawn ≤ m'.world.drawn := by
  have hv := move_drawn p m
  unfold step stepT at h
  generalize Go.move p m = mv at *
  cases mv with
  | goroutine m1 i =>
    have h2 := mrun_drawn p m1 i true
    dsimp only at h
    rw [h] at h2
    exact Nat.le_trans hv h2
  | machine s ops =>
    dsimp only at h
    rw [h] at hv
    exact hv
theorem runN_drawn {p : Program} : ∀ {n : Nat} {m m' : Machine}, runN p n m = .next m' → m.world.drawn ≤ m'.world.drawn
  | 0, m, m', h => by
    have h : (.next m : Stepped) = .next m' := h
    cases h
    exact Nat.le_refl _
  | n + 1, m, m', h => by
    unfold runN at h
    split at h
    · rename_i m1 h1
      exact Nat.le_trans (step_drawn h1) (runN_drawn h)
    · rename_i h1
      exact absurd h (h1 _)
theorem steps_drawn {p : Program} {m m' : Machine} (h : Steps p m m') : m.world.drawn ≤ m'.world.drawn := by
  obtain ⟨n, hn⟩ := h
  exact runN_drawn hn
/-- A CALL THAT RETURNS HAS NOT LOWERED THE DRAWS -/
theorem Calls.drawn {P : Program} {f : FuncId} {args : Array Value} {w : World} {v : Value} {R : World → Prop} (h : Calls P f args w fun e w' => e = .returned v ∧ R w') : Calls P f args w fun e w' => e = .returned v ∧ R w' ∧ w.drawn ≤ w'.drawn := by
  intro cs
  obtain ⟨e, w', fr, ⟨he, hR⟩, hc, h1, h2⟩ := h cs
  refine ⟨e, w', fr, ⟨he, hR, ?_⟩, hc, h1, h2⟩
  subst he
  exact steps_drawn hc
end Go.Proofs.YtohngjkedhpikaaGreatDoor
/-
  A CALL THAT ONLY ADDS, as the library's sorts want it said.
-/


namespace Go.Proofs.YtohngjkedhpikaaGreatDoor
open Go Go.RowKit Go.Sort

theorem heap_grows {h H : Array Obj} (hs : h.size ≤ H.size) (hb : ∀ k, k < h.size → H[k]? = h[k]?) : H = h ++ H.extract h.size H.size := by
  apply Array.ext_getElem?
  intro k
  rcases Nat.lt_or_ge k h.size with c | c
  · rw [hb k c, Array.getElem?_append_left c]
  · rw [Array.getElem?_append_right c, Array.getElem?_extract]
    split
    · congr 1; omega
    · rw [Array.getElem?_eq_none_iff]; omega
theorem Old.grows {w W : World} (o : Old w W) (hd : w.drawn ≤ W.drawn) : ∃ q os, W = grow (w.drewN q) os := by
  refine ⟨W.drawn - w.drawn, W.heap.extract w.heap.size W.heap.size, ?_⟩
  have h1 := heap_grows o.size o.block
  have h2 := o.os
  have h3 := o.tape
  have h4 := o.output
  cases W
  cases w
  simp only [grow, World.drewN] at *
  subst h2; subst h3; subst h4
  congr 1
  omega
end Go.Proofs.YtohngjkedhpikaaGreatDoor
