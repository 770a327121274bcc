/-
  SLICES OF RECORDS THAT STAND FOR SOMETHING, over no program: each record's further meaning is said by a relation; rows that lie apart from some blocks.
-/
import Derived.Test.YtpifkinlaicliaaGreatDoorZRecs
namespace Go.Proofs.YtpifkinlaicliaaGreatDoor
open Go.RowKit

/-- a slice value's three parts -/
abbrev Sl := Option Addr × Nat × Nat
def Sl.v (x : Sl) : Value := .slice x.1 x.2.1 x.2.2
def slE : Enc Sl := ⟨1, fun x => [x.v], fun _ => rfl, fun x u hu => by
  simp only [List.mem_cons, List.not_mem_nil, or_false] at hu
  subst hu; rfl⟩
section
variable {α β γ : Type}
/-- two lists stand for one another -/
def Both (R : β → α → Prop) (t : List β) (l : List α) : Prop := t.length = l.length ∧ ∀ (i : Nat) (x : β) (y : α), t[i]? = some x → l[i]? = some y → R x y
theorem Both.nil {R : β → α → Prop} : Both R [] [] := ⟨rfl, fun i x y h => by simp at h⟩
theorem Both.mono {R R' : β → α → Prop} {t : List β} {l : List α} (h : Both R t l) (hR : ∀ x y, R x y → R' x y) : Both R' t l := ⟨h.1, fun i x y hx hy => hR x y (h.2 i x y hx hy)⟩
theorem Both.snoc {R : β → α → Prop} {t : List β} {l : List α} (h : Both R t l) {x : β} {y : α} (hR : R x y) : Both R (t ++ [x]) (l ++ [y]) := by
  refine ⟨by simp [h.1], fun i a b ha hb => ?_⟩
  by_cases hi : i < t.length
  · rw [List.getElem?_append_left hi] at ha
    rw [List.getElem?_append_left (by rw [← h.1]; exact hi)] at hb
    exact h.2 i a b ha hb
  · rw [List.getElem?_append_right (by omega)] at ha
    rw [List.getElem?_append_right (by rw [← h.1]; omega), ← h.1] at hb
    have hz : i - t.length = 0 := by
      have := (List.getElem?_eq_some_iff.1 ha).1
      simp at this; omega
    rw [hz] at ha hb
    obtain rfl := Option.some.inj ha
    obtain rfl := Option.some.inj hb
    exact hR
theorem Both.at {R : β → α → Prop} {t : List β} {l : List α} (h : Both R t l) {i : Nat} {y : α} (hy : l[i]? = some y) : ∃ x, t[i]? = some x ∧ R x y := by
  have hi : i < t.length := by rw [h.1]; exact (List.getElem?_eq_some_iff.1 hy).1
  exact ⟨_, List.getElem?_eq_getElem hi, h.2 i _ y (List.getElem?_eq_getElem hi) hy⟩
theorem Both.unsnoc {R : β → α → Prop} {t : List β} {l : List α} {x : β} {y : α} (h : Both R (t ++ [x]) (l ++ [y])) : Both R t l ∧ R x y := by
  have hl : t.length = l.length := by have := h.1; simp at this; exact this
  refine ⟨⟨hl, fun i a b ha hb => ?_⟩, ?_⟩
  · exact h.2 i a b (by rw [List.getElem?_append_left (List.getElem?_eq_some_iff.1 ha).1]; exact ha) (by rw [List.getElem?_append_left (List.getElem?_eq_some_iff.1 hb).1]; exact hb)
  · exact h.2 t.length x y (by simp) (by rw [hl]; simp)
/-- a slice of records, each standing for something -/
def Seqs (c : Enc β) (R : World → β → α → Prop) (w : World) (v : Value) (l : List α) : Prop := ∃ t : List β, Recs c w v t ∧ Both (R w) t l
theorem Seqs.old {c : Enc β} {R : World → β → α → Prop} (hR : ∀ w W x y, R w x y → Old w W → R W x y) {w W : World} {v : Value} {l : List α} (h : Seqs c R w v l) (o : Old w W) : Seqs c R W v l := by
  obtain ⟨t, h1, h2⟩ := h
  exact ⟨t, h1.old o, h2.mono fun x y h => hR _ _ _ _ h o⟩
theorem Seqs.nil (c : Enc β) (R : World → β → α → Prop) (w : World) : Seqs c R w (.slice none 0 0) [] := ⟨[], Recs.nil c w, Both.nil⟩
theorem Seqs.form {c : Enc β} {R : World → β → α → Prop} {w : World} {v : Value} {l : List α} (h : Seqs c R w v l) : ∃ a cap, v = .slice a l.length cap ∧ l.length ≤ cap ∧ cap ≤ 9223372036854775807 := by
  obtain ⟨t, h1, h2, _⟩ := h
  have := h1.form
  rwa [h2] at this
/-- what lies at the i-th -/
theorem Seqs.at {c : Enc β} {R : World → β → α → Prop} {w : World} {a : Option Addr} {n cap : Nat} {l : List α} (h : Seqs c R w (.slice a n cap) l) :
    ∃ b off, (0 < l.length → a = some ⟨b, off, none⟩) ∧ ∀ (i : Nat) (y : α), l[i]? = some y → ∃ x, R w x y ∧ ∀ (j : Nat) (u : Value), (c.enc x)[j]? = some u → ∀ W, Old w W → W.cell? ⟨b, off + (i * c.k + j), none⟩ = some u := by
  obtain ⟨t, ⟨a', cap', b, off, e, h1, h2, h3, h4⟩, hb⟩ := h
  obtain ⟨rfl, rfl, rfl⟩ := Value.slice.inj e
  refine ⟨b, off, fun hp => h3 (by rw [hb.1]; exact hp), fun i y hy => ?_⟩
  obtain ⟨x, hx, hR⟩ := hb.at hy
  exact ⟨x, hR, fun j u hu => h4 _ u (Enc.all_at hx hu)⟩
/-- all blocks but those of F lie as they lay -/
def KeptF (F : Nat → Prop) (w W : World) : Prop := ∀ b, b < w.heap.size → ¬ F b → W.heap[b]? = w.heap[b]?
/-- Recs whose row lies in no block of which F holds -/
def RecsF (c : Enc α) (F : Nat → Prop) (w : World) (v : Value) (t : List α) : Prop :=
  ∃ a cap b off, v = .slice a t.length cap ∧ t.length ≤ cap ∧ cap ≤ 9223372036854775807 ∧ (0 < t.length → a = some ⟨b, off, none⟩) ∧ (0 < t.length → ¬ F b) ∧ ∀ j u, (c.all t)[j]? = some u → w.cell? ⟨b, off + j, none⟩ = some u
theorem RecsF.recs {c : Enc α} {F : Nat → Prop} {w : World} {v : Value} {t : List α} (h : RecsF c F w v t) : Recs c w v t := by
  obtain ⟨a, cap, b, off, e, h1, h2, h3, _, h4⟩ := h
  exact ⟨a, cap, b, off, e, h1, h2, h3, fun j u hu => later (h4 j u hu)⟩
theorem RecsF.kept {c : Enc α} {F F' : Nat → Prop} {w W : World} {v : Value} {t : List α} (h : RecsF c F w v t) (hk : KeptF F w W) (hF : ∀ b, b < w.heap.size → ¬ F b → ¬ F' b) (h0 : 0 < c.k) : RecsF c F' W v t := by
  obtain ⟨a, cap, b, off, e, h1, h2, h3, hf, h4⟩ := h
  have hb : 0 < t.length → b < w.heap.size := fun hp => by
    have hl : 0 < (c.all t).length := by rw [Enc.all_length]; exact Nat.mul_pos hp h0
    exact World.block_lt_of_cell? w _ (h4 0 _ (List.getElem?_eq_getElem hl))
  refine ⟨a, cap, b, off, e, h1, h2, h3, fun hp => hF b (hb hp) (hf hp), fun j u hu => ?_⟩
  have hp : 0 < t.length := by
    rcases Nat.eq_zero_or_pos t.length with h | h
    · rw [List.eq_nil_of_length_eq_zero h] at hu; simp [Enc.all] at hu
    · exact h
  rw [World.cell?_of_block (w := w) (hk b (hb hp) (hf hp))]
  exact h4 j u hu
theorem RecsF.of_own {c : Enc α} {F : Nat → Prop} {E : TypeId} {w0 w : World} {v : Value} {t : List α} (h : OwnS c E w0 w v t) (hF : ∀ b, v.ownBlock = some b → w0.heap.size ≤ b → b < w.heap.size → ¬ F b) : RecsF c F w v t := by
  have hr := h.recs
  obtain ⟨a, cap, b, off, e, h1, h2, h3, h4⟩ := hr
  subst e
  refine ⟨a, cap, b, off, rfl, h1, h2, h3, fun hp => ?_, fun j u hu => h4 j u hu w (Old.refl w)⟩
  obtain ⟨g, e, hg, hlt⟩ := h.block hp
  rw [h3 hp] at e
  obtain ⟨rfl, _, _⟩ := Addr.mk.inj (Option.some.inj e)
  exact hF _ (by rw [h3 hp]; rfl) hg hlt
theorem RecsF.nil (c : Enc α) (F : Nat → Prop) (w : World) : RecsF c F w (.slice none 0 0) [] := ⟨none, 0, 0, 0, rfl, by simp, by simp, by simp, by simp, by simp [Enc.all]⟩
/-- a row that a literal has just laid -/
theorem RecsF.lit {c : Enc α} {F : Nat → Prop} {w : World} {b : Nat} {t : List α} {v : Value} (hv : v = .slice (some ⟨b, 0, none⟩) t.length t.length) (hl : t.length ≤ 9223372036854775807) (hF : ¬ F b) (h : ∀ j u, (c.all t)[j]? = some u → w.cell? ⟨b, j, none⟩ = some u) : RecsF c F w v t :=
  ⟨_, _, b, 0, hv, Nat.le_refl _, hl, fun _ => rfl, fun _ => hF, fun j u hu => by rw [Nat.zero_add]; exact h j u hu⟩
theorem KeptF.old {F : Nat → Prop} {w W : World} (o : Old w W) : KeptF F w W := fun b hb _ => o.block b hb
theorem KeptF.grown {F : Nat → Prop} {w W : World} {row : Option Nat} (h : w.grownBy W row) (hF : ∀ b, row = some b → F b) : KeptF F w W := fun b hb hf => h.block b hb fun e => hf (hF b e.symm)
theorem KeptF.trans {F : Nat → Prop} {x y z : World} (h : KeptF F x y) (k : KeptF F y z) (hs : x.heap.size ≤ y.heap.size) : KeptF F x z := fun b hb hf => (k b (Nat.lt_of_lt_of_le hb hs) hf).trans (h b hb hf)
theorem KeptF.setCell {F : Nat → Prop} (w : World) {g o : Nat} (v : Value) (hg : F g) : KeptF F w (w.setCell ⟨g, o, none⟩ v) := fun b _ hf => Below.heap_setCell _ _ _ b (fun e => hf (by rw [e]; exact hg))
theorem KeptF.mono {F F' : Nat → Prop} {w W : World} (h : KeptF F w W) (hF : ∀ b, F b → F' b) : KeptF F' w W := fun b hb hf => h b hb fun e => hf (hF b e)
end
end Go.Proofs.YtpifkinlaicliaaGreatDoor
