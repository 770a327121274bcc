/-
  TOC, TREES: topics' rows that lie apart from a block.
-/
import Derived.Test.YtigpjfebnppejaaTocTreeR
namespace Go.Proofs.Ytigpjfebnppejaa
open Go.RowKit

/-- Recs whose row lies in no block of which F holds -/
def RecsF {α : Type} (c : Enc α) (F : Nat → Prop) (w : World) (v : Value) (t : List α) : Prop :=
  ∃ a cap b off, v = .slice a t.length cap ∧ t.length ≤ cap ∧ cap ≤ 9223372036854775807 ∧ (0 < t.length → a = some ⟨b, off, none⟩) ∧ (0 < t.length → ¬ F b) ∧ ∀ j u, (c.all t)[j]? = some u → w.cell? ⟨b, off + j, none⟩ = some u
theorem RecsF.recs {α : Type} {c : Enc α} {F : Nat → Prop} {w : World} {v : Value} {t : List α} (h : RecsF c F w v t) : Recs c w v t := by
  obtain ⟨a, cap, b, off, e, h1, h2, h3, _, h4⟩ := h
  exact ⟨a, cap, b, off, e, h1, h2, h3, fun j u hu => later (h4 j u hu)⟩
/-- the cells are kept where the block is -/
theorem RecsF.kept {α : Type} {c : Enc α} {F F' : Nat → Prop} {w W : World} {v : Value} {t : List α} (h : RecsF c F w v t) (hk : ∀ b, b < w.heap.size → ¬ F b → W.heap[b]? = w.heap[b]? ∧ ¬ F' b) (h0 : 0 < c.k) : RecsF c F' W v t := by
  obtain ⟨a, cap, b, off, e, h1, h2, h3, hf, h4⟩ := h
  have hb : 0 < t.length → b < w.heap.size := fun hp => by
    have hl : 0 < (c.all t).length := by rw [Enc.all_length]; exact Nat.mul_pos hp h0
    exact World.block_lt_of_cell? w _ (h4 0 _ (List.getElem?_eq_getElem hl))
  refine ⟨a, cap, b, off, e, h1, h2, h3, fun hp => (hk b (hb hp) (hf hp)).2, fun j u hu => ?_⟩
  have hp : 0 < t.length := by
    rcases Nat.eq_zero_or_pos t.length with h | h
    · rw [List.eq_nil_of_length_eq_zero h] at hu; simp [Enc.all] at hu
    · exact h
  rw [World.cell?_of_block (w := w) (hk b (hb hp) (hf hp)).1]
  exact h4 j u hu
theorem RecsF.of_own {α : Type} {c : Enc α} {F : Nat → Prop} {E : TypeId} {w0 w : World} {v : Value} {t : List α} (h : OwnS c E w0 w v t) (hF : ∀ b, w0.heap.size ≤ b → b < w.heap.size → ¬ F b) : RecsF c F w v t := by
  have hr := h.recs
  obtain ⟨a, cap, b, off, e, h1, h2, h3, h4⟩ := hr
  subst e
  refine ⟨a, cap, b, off, rfl, h1, h2, h3, fun hp => ?_, fun j u hu => h4 j u hu w (Old.refl w)⟩
  obtain ⟨g, e, hg, hlt⟩ := h.block hp
  rw [h3 hp] at e
  obtain ⟨rfl, _, _⟩ := Addr.mk.inj (Option.some.inj e)
  exact hF _ hg hlt
/-- the topics of ts, apart from F -/
def WithinF (name : ByteArray) (line : Int) (F : Nat → Prop) (w : World) (ts : List Sl) (LL : List (List Int)) : Prop :=
  ts.length = LL.length ∧ ∀ i x, ts[i]? = some x → RecsF (encTop name line) F w x.v (LL.getD i [])
theorem WithinF.within {name : ByteArray} {line : Int} {F : Nat → Prop} {w : World} {ts : List Sl} {LL : List (List Int)} (h : WithinF name line F w ts LL) : Within name line w ts LL := ⟨h.1, fun i x hx => (h.2 i x hx).recs⟩
theorem WithinF.kept {name : ByteArray} {line : Int} {F F' : Nat → Prop} {w W : World} {ts : List Sl} {LL : List (List Int)} (h : WithinF name line F w ts LL) (hk : ∀ b, b < w.heap.size → ¬ F b → W.heap[b]? = w.heap[b]? ∧ ¬ F' b) : WithinF name line F' W ts LL :=
  ⟨h.1, fun i x hx => (h.2 i x hx).kept hk (show 0 < 8 by decide)⟩
theorem WithinF.snoc {name : ByteArray} {line : Int} {F : Nat → Prop} {w : World} {ts : List Sl} {LL : List (List Int)} {k : Nat} (h : WithinF name line F w ts (LL.take k)) (hk : k < LL.length) {x : Sl} (hx : RecsF (encTop name line) F w x.v (LL.getD k [])) :
    WithinF name line F w (ts ++ [x]) (LL.take (k + 1)) := by
  have hl : ts.length = k := by have := h.1; rw [List.length_take] at this; omega
  refine ⟨by rw [List.length_append, List.length_take]; simp; omega, fun i y hy => ?_⟩
  by_cases hi : i < k
  · rw [List.getElem?_append_left (by omega)] at hy
    have := h.2 i y hy
    have e : ∀ n, i < n → (LL.take n).getD i [] = LL.getD i [] := fun n hn => by simp [List.getD, hn]
    rw [e k hi] at this
    rw [e (k + 1) (by omega)]
    exact this
  · rw [List.getElem?_append_right (by omega)] at hy
    have hik : i = k := by
      have := (List.getElem?_eq_some_iff.1 hy).1
      simp at this
      omega
    subst hik
    rw [hl, Nat.sub_self] at hy
    obtain rfl : x = y := by simpa using hy
    have e : (LL.take (i + 1)).getD i [] = LL.getD i [] := by simp [List.getD]
    rw [e]
    exact hx
end Go.Proofs.Ytigpjfebnppejaa
