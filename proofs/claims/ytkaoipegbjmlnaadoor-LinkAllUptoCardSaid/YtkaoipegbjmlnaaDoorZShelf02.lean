/-
  TEXT, THE DOCUMENT's, B: cells, how wide.
-/
import Derived.Test.YtkaoipegbjmlnaaDoorZTextWide
import Derived.Test.YtkaoipegbjmlnaaDoorZTextRefA
import Derived.BigQuiet
import Derived.Deep.DeepCutAuto
import Derived.Deep.RegionHeld3
import Derived.Deep.AppendLies
import Derived.Deep.RegionLaw
import Derived.Shelf.Strings.Builder1
import Derived.Shelf.Strings.Trim
import Derived.Shelf.Small.Strs
import Derived.Shelf.Small.Wraps
import Derived.Shelf.Utf8.AppendRunePlain
import Derived.Shelf.Strings.Repeat
import Derived.Test.YtkaoipegbjmlnaaDoorProg
namespace Go.Proofs.YtkaoipegbjmlnaaDoor
open Go.RowKit
attribute [local go_sem] Old.refl Old.alloc Old.drew Old.setCell OldW.old
/-- what a character's cells say in every later world -/
theorem Recs.chr {w : World} {b off i : Nat} {t : List Chr} (ht : ∀ j u, (chE.all t)[j]? = some u → ∀ W, Old w W → W.cell? ⟨b, off + j, none⟩ = some u) {x : Chr} (hx : t[i]? = some x) :
    ∀ V, Old w V → V.cell? ⟨b, off + i * 4, none⟩ = some (.int .i32 x.r) ∧ V.cell? ⟨b, off + i * 4 + 1, none⟩ = some (.int .i64 x.at') ∧ V.cell? ⟨b, off + i * 4 + 2, none⟩ = some (.int .i64 x.n) ∧ V.cell? ⟨b, off + i * 4 + 3, none⟩ = some (.bool x.bad) := fun V o => by
  have h0 := ht (i * 4 + 0) _ (Enc.all_at (c := chE) (j := 0) hx rfl) V o
  have h1 := ht (i * 4 + 1) _ (Enc.all_at (c := chE) (j := 1) hx rfl) V o
  have h2 := ht (i * 4 + 2) _ (Enc.all_at (c := chE) (j := 2) hx rfl) V o
  have h3 := ht (i * 4 + 3) _ (Enc.all_at (c := chE) (j := 3) hx rfl) V o
  rw [← Nat.add_assoc] at h1 h2 h3
  exact ⟨h0, h1, h2, h3⟩
/-- the characters that are left begin at p -/
theorem chars_step {l : List UInt8} {i p : Nat} (h : (charsAt l 0).drop i = charsAt l p) (hi : i < (charsAt l 0).length) :
    p < l.length ∧ (charsAt l 0)[i]? = some ⟨chR l p, p, chN l p, badC l p⟩ ∧ (charsAt l 0).drop (i + 1) = charsAt l (p + chN l p) := by
  have hp : p < l.length := by
    by_cases k : p < l.length
    · exact k
    · rw [charsAt_end k] at h
      have := congrArg List.length h
      simp at this; omega
  rw [charsAt_on hp, List.drop_eq_getElem_cons hi] at h
  have h1 := (List.cons.inj h).1
  exact ⟨hp, by rw [List.getElem?_eq_getElem hi, h1], (List.cons.inj h).2⟩
theorem chars_done {l : List UInt8} {i p : Nat} (h : (charsAt l 0).drop i = charsAt l p) (hi : ¬ i < (charsAt l 0).length) : ¬ p < l.length := fun k => by
  rw [charsAt_on k, List.drop_eq_nil_of_le (by omega)] at h
  cases h
end Go.Proofs.YtkaoipegbjmlnaaDoor
/-
  TEXT, WORDS.
-/




namespace Go.Proofs.YtkaoipegbjmlnaaDoor
open Go.RowKit
attribute [local go_sem] Old.refl Old.alloc Old.drew Old.setCell OldW.old
def isSp (s : ByteArray) (i : Nat) : Bool := s.data.toList.getD i 0 == 32
/-- a word more, if one stands there -/
def addW (s : ByteArray) (t : List CellR) (p i : Nat) : List CellR := if p < i then t ++ [⟨p, i, wideS (s.extract p i)⟩] else t
/-- the words, from a place on, behind those that are there, the last begun at p -/
def wordsGo (s : ByteArray) (i p : Nat) (t : List CellR) : List CellR :=
  if i ≤ s.size then (if i < s.size ∧ isSp s i = false then wordsGo s (i + 1) p t else wordsGo s (i + 1) (i + 1) (addW s t p i)) else t
termination_by s.size + 1 - i
def wordsS (s : ByteArray) : List CellR := wordsGo s 0 0 []
theorem wordsGo_in {s : ByteArray} {i : Nat} (h : i < s.size) (h' : isSp s i = false) (p : Nat) (t : List CellR) : wordsGo s i p t = wordsGo s (i + 1) p t := by rw [wordsGo, if_pos (by omega), if_pos ⟨h, h'⟩]
theorem wordsGo_cut {s : ByteArray} {i : Nat} (h : i ≤ s.size) (h' : i < s.size → isSp s i = true) (p : Nat) (t : List CellR) : wordsGo s i p t = wordsGo s (i + 1) (i + 1) (addW s t p i) := by
  rw [wordsGo, if_pos h, if_neg]
  rintro ⟨h1, h2⟩
  rw [h' h1] at h2; cases h2
theorem wordsGo_end {s : ByteArray} {i : Nat} (h : ¬ i ≤ s.size) (p : Nat) (t : List CellR) : wordsGo s i p t = t := by rw [wordsGo, if_neg h]
theorem byte_get (s : ByteArray) {i : Nat} (h : i < s.size) : s[i]'h = s.data.toList.getD i 0 := by
  have h' : i < s.data.toList.length := by rw [str_len]; exact h
  rw [List.getD_eq_getElem?_getD, List.getElem?_eq_getElem h']
  rfl
theorem byte_ne (s : ByteArray) {i : Nat} (h : i < s.size) : (((s[i]'h).toNat : Int) != 32) = !isSp s i := by
  rw [byte_get s h]
  unfold isSp
  generalize s.data.toList.getD i 0 = x
  rw [Bool.eq_iff_iff]
  simp only [bne_iff_ne, ne_eq, Bool.not_eq_true', beq_eq_false_iff_ne]
  refine not_congr ⟨fun e => ?_, fun e => by rw [e]; rfl⟩
  exact UInt8.toNat_inj.1 (by have h32 : (32 : UInt8).toNat = 32 := rfl; omega)
theorem extract_size {s : ByteArray} {p i : Nat} : (s.extract p i).size ≤ s.size := by rw [ByteArray.size_extract]; omega
end Go.Proofs.YtkaoipegbjmlnaaDoor
/-
  THE SHELF CONTRACTS AT THIS DUMP, laid by the shelf own tools (lay-shelf.mjs, lay-plain.mjs): strings.Builder (Len, String), TrimLeft, Compare, Repeat, cmp.Compare at int, utf8.AppendRune: no condition beside what each states.
-/







namespace Go.Proofs
open Go.Shelf
def Tryd.lays170_ren : Go.Shelf.Ren := ⟨fun | 170 => 41 | n => n, fun | 70 => 112 | 3 => 3 | 0 => 0 | 72 => 115 | 37 => 113 | 5 => 5 | n => n, fun | n => n⟩
theorem Tryd.lays170 : Go.Proofs.Lays.n170 Tryd.prog Tryd.lays170_ren := {
  mixed := by kernel_rfl
  f170 := Tryd.func41.trans (congrArg some (by kernel_rfl))
  t0 := Tryd.underlying0
  a0 := Tryd.isAgg0
  z0 := Tryd.sizeOf0
  v0 := Tryd.zeroValue0
  t3 := Tryd.underlying3
  a3 := Tryd.isAgg3
  z3 := Tryd.sizeOf3
  v3 := Tryd.zeroValue3
  t37 := Tryd.underlying113
  a37 := Tryd.isAgg113
  z37 := Tryd.sizeOf113
  v37 := Tryd.zeroValue113
  t70 := Tryd.underlying112
  a70 := Tryd.isAgg112
  z70 := Tryd.sizeOf112
  v70 := Tryd.zeroValue112
  t72 := Tryd.underlying115
  a72 := Tryd.isAgg115
  z72 := Tryd.sizeOf115
  v72 := Tryd.zeroValue115 }
open Go.RowKit in
theorem Tryd.Builder_Len (B b : Nat) (bs : List Value) (w : World) (h : Lib.IsBuilder 115 5 B b bs w) :
    Calls Tryd.prog 41 #[.pointer (some ⟨b, 0, none⟩)] w fun e w' => e = .returned (.int .i64 bs.length) ∧ w' = w := Any.Builder_Len Tryd.lays170 B b bs w h
def Tryd.lays169_ren : Go.Shelf.Ren := ⟨fun | 169 => 45 | n => n, fun | 70 => 112 | 9 => 9 | 0 => 0 | 72 => 115 | 37 => 113 | 127 => 143 | 3 => 3 | 5 => 5 | n => n, fun | n => n⟩
theorem Tryd.lays169 : Go.Proofs.Lays.n169 Tryd.prog Tryd.lays169_ren := {
  mixed := by kernel_rfl
  f169 := Tryd.func45.trans (congrArg some (by kernel_rfl))
  t0 := Tryd.underlying0
  a0 := Tryd.isAgg0
  z0 := Tryd.sizeOf0
  v0 := Tryd.zeroValue0
  t3 := Tryd.underlying3
  a3 := Tryd.isAgg3
  z3 := Tryd.sizeOf3
  v3 := Tryd.zeroValue3
  t9 := Tryd.underlying9
  a9 := Tryd.isAgg9
  z9 := Tryd.sizeOf9
  v9 := Tryd.zeroValue9
  t37 := Tryd.underlying113
  a37 := Tryd.isAgg113
  z37 := Tryd.sizeOf113
  v37 := Tryd.zeroValue113
  t70 := Tryd.underlying112
  a70 := Tryd.isAgg112
  z70 := Tryd.sizeOf112
  v70 := Tryd.zeroValue112
  t72 := Tryd.underlying115
  a72 := Tryd.isAgg115
  z72 := Tryd.sizeOf115
  v72 := Tryd.zeroValue115
  t127 := Tryd.underlying143
  a127 := Tryd.isAgg143
  z127 := Tryd.sizeOf143
  v127 := Tryd.zeroValue143 }
theorem Tryd.Builder_Extra_169 : Builder.Extra Tryd.prog Tryd.lays169_ren := {
  sizeBuilder := by kernel_rfl
  liesBuilder := by kernel_rfl
  t5 := Tryd.underlying5
  a5 := Tryd.isAgg5
  z5 := Tryd.sizeOf5
  v5 := Tryd.zeroValue5
  infoByte := by kernel_rfl
  cellsByte := by kernel_rfl
  sizeByte := by kernel_rfl
  neB5 := by decide }
open Go.RowKit in
theorem Tryd.Builder_String (B b : Nat) (l : List UInt8) (w : World) (h : Lib.IsBuilder 115 5 B b (Lib.byteCells l) w) (h0 : l ≠ []) :
    Calls Tryd.prog 45 #[.pointer (some ⟨b, 0, none⟩)] w fun e w' => e = .returned (.string ⟨l.toArray⟩) ∧ Below B w w' := Any.Builder_String Tryd.lays169 Tryd.Builder_Extra_169 B b l w h h0
open Go.RowKit in
theorem Tryd.Builder_String_empty (B b : Nat) (w : World) (h : Lib.IsBuilder 115 5 B b [] w) (hBw : B ≤ w.heap.size) :
    Calls Tryd.prog 45 #[.pointer (some ⟨b, 0, none⟩)] w fun e w' => e = .returned (.string ⟨#[]⟩) ∧ Below B w w' := Any.Builder_String_empty Tryd.lays169 Tryd.Builder_Extra_169 B b w h hBw
open Go.RowKit in
theorem Tryd.Builder_String_any (B b : Nat) (l : List UInt8) (w : World) (h : Lib.IsBuilder 115 5 B b (Lib.byteCells l) w) (hBw : B ≤ w.heap.size) :
    Calls Tryd.prog 45 #[.pointer (some ⟨b, 0, none⟩)] w fun e w' => e = .returned (.string ⟨l.toArray⟩) ∧ Below B w w' := Any.Builder_String_any Tryd.lays169 Tryd.Builder_Extra_169 B b l w h hBw
def Tryd.lays215_ren : Go.Shelf.Ren := ⟨fun | 215 => 76 | n => n, fun | 3 => 3 | 4 => 4 | n => n, fun | n => n⟩
theorem Tryd.lays215 : Go.Proofs.Lays.n215 Tryd.prog Tryd.lays215_ren := {
  mixed := by kernel_rfl
  f215 := Tryd.func76.trans (congrArg some (by kernel_rfl))
  t3 := Tryd.underlying3
  a3 := Tryd.isAgg3
  z3 := Tryd.sizeOf3
  v3 := Tryd.zeroValue3
  t4 := Tryd.underlying4
  a4 := Tryd.isAgg4
  z4 := Tryd.sizeOf4
  v4 := Tryd.zeroValue4 }
open Go.RowKit in
theorem Tryd.cmp_isNaN_int (x : Int) (w : World) :
    Calls Tryd.prog 76 #[.int .i64 x] w fun e w' => e = .returned (.bool false) ∧ w' = w := Any.cmp_isNaN_int Tryd.lays215 x w
def Tryd.lays278_ren : Go.Shelf.Ren := ⟨fun | 278 => 69 | n => n, fun | 37 => 113 | 21 => 21 | 51 => 157 | 4 => 4 | 46 => 141 | 5 => 5 | n => n, fun | n => n⟩
theorem Tryd.lays278 : Go.Proofs.Lays.n278 Tryd.prog Tryd.lays278_ren := {
  mixed := by kernel_rfl
  f278 := Tryd.func69.trans (congrArg some (by kernel_rfl))
  t4 := Tryd.underlying4
  a4 := Tryd.isAgg4
  z4 := Tryd.sizeOf4
  v4 := Tryd.zeroValue4
  t5 := Tryd.underlying5
  a5 := Tryd.isAgg5
  z5 := Tryd.sizeOf5
  v5 := Tryd.zeroValue5
  t21 := Tryd.underlying21
  a21 := Tryd.isAgg21
  z21 := Tryd.sizeOf21
  v21 := Tryd.zeroValue21
  t37 := Tryd.underlying113
  a37 := Tryd.isAgg113
  z37 := Tryd.sizeOf113
  v37 := Tryd.zeroValue113
  t46 := Tryd.underlying141
  a46 := Tryd.isAgg141
  z46 := Tryd.sizeOf141
  v46 := Tryd.zeroValue141
  t51 := Tryd.underlying157
  a51 := Tryd.isAgg157
  z51 := Tryd.sizeOf157
  v51 := Tryd.zeroValue157 }
open Go.RowKit in
theorem Tryd.utf8_appendRuneNonASCII_plain (B : Nat) (v : Value) (n : Nat) (xs : List Value) (r : Int) (hr0 : -2147483648 ≤ r) (hr1 : r ≤ 2147483647) (hna : r < 0 ∨ 128 ≤ r) (w : World) (hown : w.ownsRow B 5 1 v n xs) (hlen : n + 4 ≤ 140737488355328) (hBw : B ≤ w.heap.size) :
    Calls Tryd.prog 69 #[v, .int .i32 r] w fun e w' => ∃ v', e = .returned v' ∧ w'.ownsRow B 5 1 v' (n + (Lib.runeCells r).length) (xs ++ Lib.runeCells r) ∧ ∃ o, (w.alloc o).grownBy w' v.ownBlock := Any.utf8_appendRuneNonASCII_plain Tryd.lays278 (by kernel_rfl) B v n xs r hr0 hr1 hna w hown hlen hBw
def Tryd.lays242_ren : Go.Shelf.Ren := ⟨fun | 242 => 53 | 278 => 69 | n => n, fun | 37 => 113 | 21 => 21 | 51 => 157 | 4 => 4 | 5 => 5 | 46 => 141 | n => n, fun | n => n⟩
theorem Tryd.lays242 : Go.Proofs.Lays.n242 Tryd.prog Tryd.lays242_ren := {
  mixed := by kernel_rfl
  f242 := Tryd.func53.trans (congrArg some (by kernel_rfl))
  f278 := Tryd.func69.trans (congrArg some (by kernel_rfl))
  t4 := Tryd.underlying4
  a4 := Tryd.isAgg4
  z4 := Tryd.sizeOf4
  v4 := Tryd.zeroValue4
  t5 := Tryd.underlying5
  a5 := Tryd.isAgg5
  z5 := Tryd.sizeOf5
  v5 := Tryd.zeroValue5
  t21 := Tryd.underlying21
  a21 := Tryd.isAgg21
  z21 := Tryd.sizeOf21
  v21 := Tryd.zeroValue21
  t37 := Tryd.underlying113
  a37 := Tryd.isAgg113
  z37 := Tryd.sizeOf113
  v37 := Tryd.zeroValue113
  t46 := Tryd.underlying141
  a46 := Tryd.isAgg141
  z46 := Tryd.sizeOf141
  v46 := Tryd.zeroValue141
  t51 := Tryd.underlying157
  a51 := Tryd.isAgg157
  z51 := Tryd.sizeOf157
  v51 := Tryd.zeroValue157 }
open Go.RowKit in
theorem Tryd.utf8_AppendRune_plain (B : Nat) (v : Value) (n : Nat) (xs : List Value) (r : Int) (hr0 : -2147483648 ≤ r) (hr1 : r ≤ 2147483647) (w : World) (hown : w.ownsRow B 5 1 v n xs) (hlen : n + 4 ≤ 140737488355328) (hBw : B ≤ w.heap.size) :
    Calls Tryd.prog 53 #[v, .int .i32 r] w fun e w' => ∃ v', e = .returned v' ∧ w'.ownsRow B 5 1 v' (n + (Lib.runeCells r).length) (xs ++ Lib.runeCells r) ∧ ∃ o, (w.alloc o).grownBy w' v.ownBlock := Any.utf8_AppendRune_plain Tryd.lays242 (by kernel_rfl) B v n xs r hr0 hr1 w hown hlen hBw
end Go.Proofs
