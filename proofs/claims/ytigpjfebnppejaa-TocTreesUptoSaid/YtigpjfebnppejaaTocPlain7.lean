/-
  TOC, PLAIN: the contents of sources, level by level.
-/
import Derived.Test.YtigpjfebnppejaaTocPlain
namespace Go.Proofs.Ytigpjfebnppejaa
open Go.RowKit

/-- the level of the last entry -/
def lastL (out : List (Int × Int)) : Int := ahead out out.length
/-- (refused, topics so far, entries) from a source's k-th level on -/
def treeIn (ls : List Int) (k : Nat) (num : Nat) (out : List (Int × Int)) : Bool × Nat × Nat × List (Int × Int) :=
  if k < ls.length then
    (if ix ls k = 0 then treeIn ls (k + 1) (num + 1) out
     else if levelB (ix ls k) (lastL out) = true then treeIn ls (k + 1) (num + 1) (out ++ [((num : Int), ix ls k)]) else (true, k, num, out))
  else (false, k, num, out)
termination_by ls.length - k
theorem treeIn_end {ls : List Int} {k num : Nat} {out : List (Int × Int)} (h : ¬ k < ls.length) : treeIn ls k num out = (false, k, num, out) := by rw [treeIn, if_neg h]
theorem treeIn_zero {ls : List Int} {k num : Nat} {out : List (Int × Int)} (h : k < ls.length) (h0 : ix ls k = 0) : treeIn ls k num out = treeIn ls (k + 1) (num + 1) out := by rw [treeIn, if_pos h, if_pos h0]
theorem treeIn_on {ls : List Int} {k num : Nat} {out : List (Int × Int)} (h : k < ls.length) (h0 : ¬ ix ls k = 0) (h1 : levelB (ix ls k) (lastL out) = true) :
    treeIn ls k num out = treeIn ls (k + 1) (num + 1) (out ++ [((num : Int), ix ls k)]) := by rw [treeIn, if_pos h, if_neg h0, if_pos h1]
theorem treeIn_bad {ls : List Int} {k num : Nat} {out : List (Int × Int)} (h : k < ls.length) (h0 : ¬ ix ls k = 0) (h1 : ¬ levelB (ix ls k) (lastL out) = true) : treeIn ls k num out = (true, k, num, out) := by
  rw [treeIn, if_pos h, if_neg h0, if_neg h1]
theorem lastL_snoc (out : List (Int × Int)) (x : Int × Int) : lastL (out ++ [x]) = x.2 := by
  unfold lastL ahead p1
  simp
theorem lastL_nil : lastL [] = 0 := rfl
/-- levels from 0 to 8 -/
def Small8 (out : List (Int × Int)) : Prop := 0 ≤ lastL out ∧ lastL out ≤ 8
theorem small8_nil : Small8 [] := ⟨by decide, by decide⟩
theorem small8_snoc {out : List (Int × Int)} {n l a : Int} (h : levelB l a = true) : Small8 (out ++ [(n, l)]) := by
  unfold Small8
  rw [lastL_snoc]
  simp [levelB] at h
  exact ⟨by omega, by omega⟩
/-- (the source that is refused, or -1; entries) from the i-th source on -/
def treeAll (LL : List (List Int)) (i : Nat) (num : Nat) (out : List (Int × Int)) : Int × List (Int × Int) :=
  if i < LL.length then (if (treeIn (LL.getD i []) 0 num out).1 then ((i : Int), []) else treeAll LL (i + 1) (treeIn (LL.getD i []) 0 num out).2.2.1 (treeIn (LL.getD i []) 0 num out).2.2.2) else (-1, out)
termination_by LL.length - i
theorem treeAll_end {LL : List (List Int)} {i num : Nat} {out : List (Int × Int)} (h : ¬ i < LL.length) : treeAll LL i num out = (-1, out) := by rw [treeAll, if_neg h]
theorem treeAll_bad {LL : List (List Int)} {i num : Nat} {out : List (Int × Int)} (h : i < LL.length) (h1 : (treeIn (LL.getD i []) 0 num out).1 = true) : treeAll LL i num out = ((i : Int), []) := by rw [treeAll, if_pos h, if_pos h1]
theorem treeAll_on {LL : List (List Int)} {i num : Nat} {out : List (Int × Int)} {k n' : Nat} {out' : List (Int × Int)} (h : i < LL.length) (h1 : treeIn (LL.getD i []) 0 num out = (false, k, n', out')) : treeAll LL i num out = treeAll LL (i + 1) n' out' := by
  rw [treeAll, if_pos h, h1]; rfl
/-- how many levels the first k sources have -/
def totL (LL : List (List Int)) : Nat → Nat
  | 0 => 0
  | k + 1 => totL LL k + (LL.getD k []).length
theorem totL_mono (LL : List (List Int)) {a : Nat} : ∀ {b : Nat}, a ≤ b → totL LL a ≤ totL LL b
  | 0, h => by rw [Nat.le_zero.1 h]; exact Nat.le_refl _
  | b + 1, h => by
    by_cases e : a = b + 1
    · rw [e]; exact Nat.le_refl _
    · have := totL_mono LL (show a ≤ b by omega)
      rw [totL]; omega
end Go.Proofs.Ytigpjfebnppejaa
