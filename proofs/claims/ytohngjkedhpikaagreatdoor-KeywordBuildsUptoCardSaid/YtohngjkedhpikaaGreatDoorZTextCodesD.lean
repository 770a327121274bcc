/-
  SLICES OF TEXTS, over no program.
-/
import Derived.Test.YtohngjkedhpikaaGreatDoorZTextWords
import Derived.Deep.AppendLies
import Derived.Test.YtohngjkedhpikaaGreatDoorZTextCodesC
namespace Go.Proofs.YtohngjkedhpikaaGreatDoor
open Go.RowKit

def txE : Enc ByteArray := ⟨1, fun x => [.string x], fun _ => rfl, fun x u hu => by
  simp only [List.mem_cons, List.not_mem_nil, or_false] at hu
  subst hu; rfl⟩
theorem txE_all (l : List ByteArray) : txE.all l = l.map Value.string := by
  induction l with
  | nil => rfl
  | cons x t ih => rw [Enc.all_cons, ih]; rfl
/-- v: a slice of the texts L, in w and later -/
def Txts (w : World) (v : Value) (L : List ByteArray) : Prop :=
  ∃ a cap b off, v = .slice a L.length cap ∧ L.length ≤ cap ∧ cap ≤ 9223372036854775807 ∧ (0 < L.length → a = some ⟨b, off, none⟩) ∧
    ∀ i, i < L.length → ∀ W, Old w W → W.cell? ⟨b, off + i, none⟩ = some (.string (L.getD i ⟨#[]⟩))
theorem Txts.old {w w' : World} {v : Value} {l : List ByteArray} (h : Txts w v l) (o : Old w w') : Txts w' v l := by
  obtain ⟨a, cap, b, off, e, h1, h2, h3, h4⟩ := h
  exact ⟨a, cap, b, off, e, h1, h2, h3, fun i hi W hW => h4 i hi W (o.trans hW)⟩
theorem Txts.nil (w : World) : Txts w (.slice none 0 0) [] := ⟨none, 0, 0, 0, rfl, by simp, by simp, by simp, by simp⟩
theorem Txts.form {w : World} {v : Value} {l : List ByteArray} (h : Txts w v l) : ∃ a cap, v = .slice a l.length cap ∧ l.length ≤ cap ∧ cap ≤ 9223372036854775807 := by
  obtain ⟨a, cap, b, off, e, h1, h2, _⟩ := h; exact ⟨a, cap, e, h1, h2⟩
theorem Txts.of_recs {w : World} {v : Value} {l : List ByteArray} (h : Recs txE w v l) : Txts w v l := by
  obtain ⟨a, cap, b, off, e, h1, h2, h3, h4⟩ := h
  refine ⟨a, cap, b, off, e, h1, h2, h3, fun i hi W hW => ?_⟩
  refine h4 i _ ?_ W hW
  rw [txE_all, List.getElem?_map]
  simp [List.getD, hi]
theorem Txts.recs {w : World} {v : Value} {l : List ByteArray} (h : Txts w v l) : Recs txE w v l := by
  obtain ⟨a, cap, b, off, e, h1, h2, h3, h4⟩ := h
  refine ⟨a, cap, b, off, e, h1, h2, h3, fun j u hu W hW => ?_⟩
  rw [txE_all, List.getElem?_map] at hu
  have hj : j < l.length := by
    rcases Nat.lt_or_ge j l.length with c | c
    · exact c
    · rw [List.getElem?_eq_none c] at hu; simp at hu
  rw [h4 j hj W hW, ← hu]
  simp [List.getD, hj]
/-- the slice's cells, from a world on -/
theorem Txts.at1 {w : World} {a : Option Addr} {n cap : Nat} {l : List ByteArray} (h : Txts w (.slice a n cap) l) : ∃ b off, (0 < l.length → a = some ⟨b, off, none⟩) ∧ ∀ (i : Nat) (x : ByteArray), l[i]? = some x → ∀ W, Old w W → W.cell? ⟨b, off + i, none⟩ = some (.string x) := by
  obtain ⟨a', cap', b, off, e, _, _, h3, h4⟩ := h
  obtain ⟨rfl, _, rfl⟩ := Value.slice.inj e
  refine ⟨b, off, h3, fun i x hx W o => ?_⟩
  have hi := (List.getElem?_eq_some_iff.1 hx).1
  rw [h4 i hi W o]
  simp [List.getD, hx]
end Go.Proofs.YtohngjkedhpikaaGreatDoor
/-
  SLICES OF RECORDS THAT STAND FOR SOMETHING, over no program: each record's further meaning is said by a relation; rows that lie apart from some blocks.
-/

namespace Go.Proofs.YtohngjkedhpikaaGreatDoor
open Go.RowKit

/-- a slice value's three parts -/
abbrev Sl := Option Addr × Nat × Nat
def Sl.v (x : Sl) : Value := .slice x.1 x.2.1 x.2.2
def slE : Enc Sl := ⟨1, fun x => [x.v], fun _ => rfl, fun x u hu => by
  simp only [List.mem_cons, List.not_mem_nil, or_false] at hu
  subst hu; rfl⟩
section
variable {α β γ : Type}
/-- two lists stand for one another -/
def Both (R : β → α → Prop) (t : List β) (l : List α) : Prop := t.length = l.length ∧ ∀ (i : Nat) (x : β) (y : α), t[i]? = some x → l[i]? = some y → R x y
theorem Both.nil {R : β → α → Prop} : Both R [] [] := ⟨rfl, fun i x y h => by simp at h⟩
theorem Both.mono {R R' : β → α → Prop} {t : List β} {l : List α} (h : Both R t l) (hR : ∀ x y, R x y → R' x y) : Both R' t l := ⟨h.1, fun i x y hx hy => hR x y (h.2 i x y hx hy)⟩
theorem Both.snoc {R : β → α → Prop} {t : List β} {l : List α} (h : Both R t l) {x : β} {y : α} (hR : R x y) : Both R (t ++ [x]) (l ++ [y]) := by
  refine ⟨by simp [h.1], fun i a b ha hb => ?_⟩
  by_cases hi : i < t.length
  · rw [List.getElem?_append_left hi] at ha
    rw [List.getElem?_append_left (by rw [← h.1]; exact hi)] at hb
    exact h.2 i a b ha hb
  · rw [List.getElem?_append_right (by omega)] at ha
    rw [List.getElem?_append_right (by rw [← h.1]; omega), ← h.1] at hb
    have hz : i - t.length = 0 := by
      have := (List.getElem?_eq_some_iff.1 ha).1
      simp at this; omega
    rw [hz] at ha hb
    obtain rfl := Option.some.inj ha
    obtain rfl := Option.some.inj hb
    exact hR
theorem Both.at {R : β → α → Prop} {t : List β} {l : List α} (h : Both R t l) {i : Nat} {y : α} (hy : l[i]? = some y) : ∃ x, t[i]? = some x ∧ R x y := by
  have hi : i < t.length := by rw [h.1]; exact (List.getElem?_eq_some_iff.1 hy).1
  exact ⟨_, List.getElem?_eq_getElem hi, h.2 i _ y (List.getElem?_eq_getElem hi) hy⟩
theorem Both.unsnoc {R : β → α → Prop} {t : List β} {l : List α} {x : β} {y : α} (h : Both R (t ++ [x]) (l ++ [y])) : Both R t l ∧ R x y := by
  have hl : t.length = l.length := by have := h.1; simp at this; exact this
  refine ⟨⟨hl, fun i a b ha hb => ?_⟩, ?_⟩
  · exact h.2 i a b (by rw [List.getElem?_append_left (List.getElem?_eq_some_iff.1 ha).1]; exact ha) (by rw [List.getElem?_append_left (List.getElem?_eq_some_iff.1 hb).1]; exact hb)
  · exact h.2 t.length x y (by simp) (by rw [hl]; simp)
/-- a slice of records, each standing for something -/
def Seqs (c : Enc β) (R : World → β → α → Prop) (w : World) (v : Value) (l : List α) : Prop := ∃ t : List β, Recs c w v t ∧ Both (R w) t l
theorem Seqs.old {c : Enc β} {R : World → β → α → Prop} (hR : ∀ w W x y, R w x y → Old w W → R W x y) {w W : World} {v : Value} {l : List α} (h : Seqs c R w v l) (o : Old w W) : Seqs c R W v l := by
  obtain ⟨t, h1, h2⟩ := h
  exact ⟨t, h1.old o, h2.mono fun x y h => hR _ _ _ _ h o⟩
theorem Seqs.nil (c : Enc β) (R : World → β → α → Prop) (w : World) : Seqs c R w (.slice none 0 0) [] := ⟨[], Recs.nil c w, Both.nil⟩
theorem Seqs.form {c : Enc β} {R : World → β → α → Prop} {w : World} {v : Value} {l : List α} (h : Seqs c R w v l) : ∃ a cap, v = .slice a l.length cap ∧ l.length ≤ cap ∧ cap ≤ 9223372036854775807 := by
  obtain ⟨t, h1, h2, _⟩ := h
  have := h1.form
  rwa [h2] at this
/-- what lies at the i-th -/
theorem Seqs.at {c : Enc β} {R : World → β → α → Prop} {w : World} {a : Option Addr} {n cap : Nat} {l : List α} (h : Seqs c R w (.slice a n cap) l) :
    ∃ b off, (0 < l.length → a = some ⟨b, off, none⟩) ∧ ∀ (i : Nat) (y : α), l[i]? = some y → ∃ x, R w x y ∧ ∀ (j : Nat) (u : Value), (c.enc x)[j]? = some u → ∀ W, Old w W → W.cell? ⟨b, off + (i * c.k + j), none⟩ = some u := by
  obtain ⟨t, ⟨a', cap', b, off, e, h1, h2, h3, h4⟩, hb⟩ := h
  obtain ⟨rfl, rfl, rfl⟩ := Value.slice.inj e
  refine ⟨b, off, fun hp => h3 (by rw [hb.1]; exact hp), fun i y hy => ?_⟩
  obtain ⟨x, hx, hR⟩ := hb.at hy
  exact ⟨x, hR, fun j u hu => h4 _ u (Enc.all_at hx hu)⟩
/-- all blocks but those of F lie as they lay -/
def KeptF (F : Nat → Prop) (w W : World) : Prop := ∀ b, b < w.heap.size → ¬ F b → W.heap[b]? = w.heap[b]?
/-- Recs whose row lies in no block of which F holds -/
def RecsF (c : Enc α) (F : Nat → Prop) (w : World) (v : Value) (t : List α) : Prop :=
  ∃ a cap b off, v = .slice a t.length cap ∧ t.length ≤ cap ∧ cap ≤ 9223372036854775807 ∧ (0 < t.length → a = some ⟨b, off, none⟩) ∧ (0 < t.length → ¬ F b) ∧ ∀ j u, (c.all t)[j]? = some u → w.cell? ⟨b, off + j, none⟩ = some u
theorem RecsF.recs {c : Enc α} {F : Nat → Prop} {w : World} {v : Value} {t : List α} (h : RecsF c F w v t) : Recs c w v t := by
  obtain ⟨a, cap, b, off, e, h1, h2, h3, _, h4⟩ := h
  exact ⟨a, cap, b, off, e, h1, h2, h3, fun j u hu => later (h4 j u hu)⟩
theorem RecsF.kept {c : Enc α} {F F' : Nat → Prop} {w W : World} {v : Value} {t : List α} (h : RecsF c F w v t) (hk : KeptF F w W) (hF : ∀ b, b < w.heap.size → ¬ F b → ¬ F' b) (h0 : 0 < c.k) : RecsF c F' W v t := by
  obtain ⟨a, cap, b, off, e, h1, h2, h3, hf, h4⟩ := h
  have hb : 0 < t.length → b < w.heap.size := fun hp => by
    have hl : 0 < (c.all t).length := by rw [Enc.all_length]; exact Nat.mul_pos hp h0
    exact World.block_lt_of_cell? w _ (h4 0 _ (List.getElem?_eq_getElem hl))
  refine ⟨a, cap, b, off, e, h1, h2, h3, fun hp => hF b (hb hp) (hf hp), fun j u hu => ?_⟩
  have hp : 0 < t.length := by
    rcases Nat.eq_zero_or_pos t.length with h | h
    · rw [List.eq_nil_of_length_eq_zero h] at hu; simp [Enc.all] at hu
    · exact h
  rw [World.cell?_of_block (w := w) (hk b (hb hp) (hf hp))]
  exact h4 j u hu
theorem RecsF.of_own {c : Enc α} {F : Nat → Prop} {E : TypeId} {w0 w : World} {v : Value} {t : List α} (h : OwnS c E w0 w v t) (hF : ∀ b, v.ownBlock = some b → w0.heap.size ≤ b → b < w.heap.size → ¬ F b) : RecsF c F w v t := by
  have hr := h.recs
  obtain ⟨a, cap, b, off, e, h1, h2, h3, h4⟩ := hr
  subst e
  refine ⟨a, cap, b, off, rfl, h1, h2, h3, fun hp => ?_, fun j u hu => h4 j u hu w (Old.refl w)⟩
  obtain ⟨g, e, hg, hlt⟩ := h.block hp
  rw [h3 hp] at e
  obtain ⟨rfl, _, _⟩ := Addr.mk.inj (Option.some.inj e)
  exact hF _ (by rw [h3 hp]; rfl) hg hlt
theorem RecsF.nil (c : Enc α) (F : Nat → Prop) (w : World) : RecsF c F w (.slice none 0 0) [] := ⟨none, 0, 0, 0, rfl, by simp, by simp, by simp, by simp, by simp [Enc.all]⟩
/-- a row that a literal has just laid -/
theorem RecsF.lit {c : Enc α} {F : Nat → Prop} {w : World} {b : Nat} {t : List α} {v : Value} (hv : v = .slice (some ⟨b, 0, none⟩) t.length t.length) (hl : t.length ≤ 9223372036854775807) (hF : ¬ F b) (h : ∀ j u, (c.all t)[j]? = some u → w.cell? ⟨b, j, none⟩ = some u) : RecsF c F w v t :=
  ⟨_, _, b, 0, hv, Nat.le_refl _, hl, fun _ => rfl, fun _ => hF, fun j u hu => by rw [Nat.zero_add]; exact h j u hu⟩
theorem KeptF.old {F : Nat → Prop} {w W : World} (o : Old w W) : KeptF F w W := fun b hb _ => o.block b hb
theorem KeptF.grown {F : Nat → Prop} {w W : World} {row : Option Nat} (h : w.grownBy W row) (hF : ∀ b, row = some b → F b) : KeptF F w W := fun b hb hf => h.block b hb fun e => hf (hF b e.symm)
theorem KeptF.trans {F : Nat → Prop} {x y z : World} (h : KeptF F x y) (k : KeptF F y z) (hs : x.heap.size ≤ y.heap.size) : KeptF F x z := fun b hb hf => (k b (Nat.lt_of_lt_of_le hb hs) hf).trans (h b hb hf)
theorem KeptF.setCell {F : Nat → Prop} (w : World) {g o : Nat} (v : Value) (hg : F g) : KeptF F w (w.setCell ⟨g, o, none⟩ v) := fun b _ hf => Below.heap_setCell _ _ _ b (fun e => hf (by rw [e]; exact hg))
theorem KeptF.mono {F F' : Nat → Prop} {w W : World} (h : KeptF F w W) (hF : ∀ b, F b → F' b) : KeptF F' w W := fun b hb hf => h b hb fun e => hf (hF b e)
end
end Go.Proofs.YtohngjkedhpikaaGreatDoor
/-
  APPEND TO A ROW OF RECORDS, where it lies told: over no program.
-/


namespace Go.Proofs.YtohngjkedhpikaaGreatDoor
open Go.RowKit
section
variable {α : Type} {c : Enc α} {P : Program} {ops : Array Oper} {rest : List Oper} {o : Oper} {a : Act} {Q : Exit → Act → World → Prop}
theorem wpList_append_at {w0 w : World} (hgd : o.guard = none) (s x : Operand) (T : TypeId) (ho : o.op = .call { callee := .builtin .append, args := #[s, x], argTypes := #[T, T] })
    (E : TypeId) (ht : P.underlying T = some (.slice E)) (z : Value) {bytes : Nat} (hinfo : (P.info? E).map (fun i => (i.zero, i.size, i.bytes)) = some (some z, c.k, bytes)) (hzs : z.cells.size = c.k) (hsz : 0 < c.k)
    (v : Value) (l u : List α) (hs : a.eval s = v) (hown : OwnS c E w0 w v l) (vx : Value) (hx : a.eval x = vx) (hu : Recs c w vx u) (hu0 : 0 < u.length)
    (h63 : l.length + u.length ≤ 9223372036854775807) (hbytes : (l.length + u.length) * bytes ≤ 140737488355328) (hold : w0.heap.size ≤ w.heap.size)
    (h : ∀ g cap w', OwnS c E w0 w' (.slice (some ⟨g, 0, none⟩) (l.length + u.length) cap) (l ++ u) → w.grownBy w' v.ownBlock → (v.ownBlock = some g ∨ g = w.heap.size) → g < w'.heap.size →
      wpList P ops Q rest (a.put o.dst (.slice (some ⟨g, 0, none⟩) (l.length + u.length) cap)) w') : wpList P ops Q (o :: rest) a w := by
  obtain ⟨ao, cap, b, off, rfl, hn1, hn2, ha, ht0⟩ := hu
  obtain ⟨i, hi, hz0, hz1, hz2⟩ := info_parts hinfo
  obtain rfl := ha hu0
  refine wpList_append_lies w hgd s x T ho w0.heap.size E i z c.k bytes ht hi hz0 hz1 hz2 hzs hsz v l.length (c.all l) hs hown ⟨b, off, none⟩ u.length cap (c.all u) hx (Enc.all_length u) (Recs.cells ht0 (Old.refl w)) (Enc.cells_one u) hu0 (by simpa [maxLen] using h63) hbytes hold w.heap.size rfl fun g cap' w' k1 k2 k3 k4 => ?_
  refine h g cap' w' ?_ k2 k3 k4
  unfold OwnS
  rw [Enc.all_append, List.length_append]
  exact k1
theorem step_append_at {w0 w : World} {K : Act → World → Prop} {E' : Prop} (hgd : o.guard = none) (s x : Operand) (T : TypeId) (ho : o.op = .call { callee := .builtin .append, args := #[s, x], argTypes := #[T, T] })
    (E : TypeId) (ht : P.underlying T = some (.slice E)) (z : Value) {bytes : Nat} (hinfo : (P.info? E).map (fun i => (i.zero, i.size, i.bytes)) = some (some z, c.k, bytes)) (hzs : z.cells.size = c.k) (hsz : 0 < c.k)
    (v : Value) (l u : List α) (hs : a.eval s = v) (hown : OwnS c E w0 w v l) (vx : Value) (hx : a.eval x = vx) (hu : Recs c w vx u) (hu0 : 0 < u.length)
    (h63 : l.length + u.length ≤ 9223372036854775807) (hbytes : (l.length + u.length) * bytes ≤ 140737488355328) (hold : w0.heap.size ≤ w.heap.size)
    (h : ∀ g cap w', OwnS c E w0 w' (.slice (some ⟨g, 0, none⟩) (l.length + u.length) cap) (l ++ u) → w.grownBy w' v.ownBlock → (v.ownBlock = some g ∨ g = w.heap.size) → g < w'.heap.size →
      K (a.put o.dst (.slice (some ⟨g, 0, none⟩) (l.length + u.length) cap)) w') : if Region.wanted o (yielded ops a.tmps) = true then Oper.wp P o a w K Q else E' := by
  obtain ⟨ao, cap, b, off, rfl, hn1, hn2, ha, ht0⟩ := hu
  obtain ⟨i, hi, hz0, hz1, hz2⟩ := info_parts hinfo
  obtain rfl := ha hu0
  refine step_append_lies w hgd s x T ho w0.heap.size E i z c.k bytes ht hi hz0 hz1 hz2 hzs hsz v l.length (c.all l) hs hown ⟨b, off, none⟩ u.length cap (c.all u) hx (Enc.all_length u) (Recs.cells ht0 (Old.refl w)) (Enc.cells_one u) hu0 (by simpa [maxLen] using h63) hbytes hold w.heap.size rfl fun g cap' w' k1 k2 k3 k4 => ?_
  refine h g cap' w' ?_ k2 k3 k4
  unfold OwnS
  rw [Enc.all_append, List.length_append]
  exact k1
end
end Go.Proofs.YtohngjkedhpikaaGreatDoor
/-
  TEXT, CODES D: the document's width.
-/

namespace Go.Proofs.YtohngjkedhpikaaGreatDoor
open Go.RowKit
attribute [local go_sem] Old.refl Old.alloc Old.drew Old.setCell OldW.old

theorem Control2_any (r : Int) (w : World) :
    Calls Tryz.prog 157 #[.int .i32 r] w fun e w' => e = .returned (.bool (inR r 0 31 || inR r 127 159)) ∧ w = w' := by
  go_enter Tryz.func157, Tryz.ntmps157
  go_wp2
  all_goals
    go_ret
    refine ⟨ret_bool ?_, rfl⟩
    rw [Bool.eq_iff_iff]
    simp [inR_iff]
    omega
theorem Control2_at {r : Int} {b : Bool} (h : (inR r 0 31 || inR r 127 159) = b) (w : World) :
    Calls Tryz.prog 157 #[.int .i32 r] w fun e w' => e = .returned (.bool b) ∧ w = w' := by
  subst h; exact Control2_any r w
set_option maxRecDepth 100000 in
set_option maxHeartbeats 12800000 in
theorem RWidth_any (r : Int) (w : World) :
    Calls Tryz.prog 104 #[.int .i32 r] w fun e w' => e = .returned (.int .i64 (widC r)) ∧ w = w' := by
  by_cases c0 : (inR r 0 31 || inR r 127 159) = true
  · have Hs := Lib.hid (widC_zero (r := r) (by simp only [zeroW, Bool.or_eq_true] at c0 ⊢; exact .inl (.inl (.inl c0))))
    go_enter Tryz.func104, Tryz.ntmps104
    go_upto_region 1 with fail
    refine wp_region_calm ?_
    repeat (go_big_quiet_step (first | (exact Calls.calm (in_at (by assumption) _)) | (exact Calls.calm (Control2_at (by assumption) _))))
    refine wpQuiet_nil ?_
    go_wp2_with fail
    go_ret
    exact ⟨ret_i (by rw [Hs.out]; rfl), rfl⟩
  rw [Bool.not_eq_true] at c0
  by_cases z0 : inR r 768 879 = true
  · have Hs := Lib.hid (widC_zero (r := r) (by simp only [zeroW, Bool.or_eq_true]; exact .inl (.inl (.inr z0))))
    go_enter Tryz.func104, Tryz.ntmps104
    go_upto_region 1 with fail
    refine wp_region_calm ?_
    repeat (go_big_quiet_step (first | (exact Calls.calm (in_at (by assumption) _)) | (exact Calls.calm (Control2_at (by assumption) _))))
    refine wpQuiet_nil ?_
    go_wp2_with fail
    go_ret
    exact ⟨ret_i (by rw [Hs.out]; rfl), rfl⟩
  rw [Bool.not_eq_true] at z0
  by_cases z1 : inR r 8203 8205 = true
  · have Hs := Lib.hid (widC_zero (r := r) (by simp only [zeroW, Bool.or_eq_true]; exact .inl (.inr z1)))
    go_enter Tryz.func104, Tryz.ntmps104
    go_upto_region 1 with fail
    refine wp_region_calm ?_
    repeat (go_big_quiet_step (first | (exact Calls.calm (in_at (by assumption) _)) | (exact Calls.calm (Control2_at (by assumption) _))))
    refine wpQuiet_nil ?_
    go_wp2_with fail
    go_ret
    exact ⟨ret_i (by rw [Hs.out]; rfl), rfl⟩
  rw [Bool.not_eq_true] at z1
  by_cases z2 : inR r 65024 65039 = true
  · have Hs := Lib.hid (widC_zero (r := r) (by simp only [zeroW, Bool.or_eq_true]; exact .inr z2))
    go_enter Tryz.func104, Tryz.ntmps104
    go_upto_region 1 with fail
    refine wp_region_calm ?_
    repeat (go_big_quiet_step (first | (exact Calls.calm (in_at (by assumption) _)) | (exact Calls.calm (Control2_at (by assumption) _))))
    refine wpQuiet_nil ?_
    go_wp2_with fail
    go_ret
    exact ⟨ret_i (by rw [Hs.out]; rfl), rfl⟩
  rw [Bool.not_eq_true] at z2
  have hz : zeroW r = false := by simp only [zeroW, c0, z0, z1, z2, Bool.or_self]
  have Hz := Lib.hid hz
  clear hz
  by_cases w0 : inR r 4352 4447 = true
  · have Hs := Lib.hid (widC_two Hz.out (k := 0) (by omega) w0)
    go_enter Tryz.func104, Tryz.ntmps104
    go_upto_region 1 with fail
    refine wp_region_calm ?_
    repeat (go_big_quiet_step (first | (exact Calls.calm (in_at (by assumption) _)) | (exact Calls.calm (Control2_at (by assumption) _))))
    refine wpQuiet_nil ?_
    go_upto_region 3 with fail
    refine wp_region_calm ?_
    repeat (go_big_quiet_step (first | (exact Calls.calm (in_at (by assumption) _)) | (exact Calls.calm (Control2_at (by assumption) _))))
    refine wpQuiet_nil ?_
    go_wp2_with fail
    go_ret
    exact ⟨ret_i (by rw [Hs.out]; rfl), rfl⟩
  rw [Bool.not_eq_true] at w0
  by_cases w1 : inR r 11904 12350 = true
  · have Hs := Lib.hid (widC_two Hz.out (k := 1) (by omega) w1)
    go_enter Tryz.func104, Tryz.ntmps104
    go_upto_region 1 with fail
    refine wp_region_calm ?_
    repeat (go_big_quiet_step (first | (exact Calls.calm (in_at (by assumption) _)) | (exact Calls.calm (Control2_at (by assumption) _))))
    refine wpQuiet_nil ?_
    go_upto_region 3 with fail
    refine wp_region_calm ?_
    repeat (go_big_quiet_step (first | (exact Calls.calm (in_at (by assumption) _)) | (exact Calls.calm (Control2_at (by assumption) _))))
    refine wpQuiet_nil ?_
    go_wp2_with fail
    go_ret
    exact ⟨ret_i (by rw [Hs.out]; rfl), rfl⟩
  rw [Bool.not_eq_true] at w1
  by_cases w2 : inR r 12353 13311 = true
  · have Hs := Lib.hid (widC_two Hz.out (k := 2) (by omega) w2)
    go_enter Tryz.func104, Tryz.ntmps104
    go_upto_region 1 with fail
    refine wp_region_calm ?_
    repeat (go_big_quiet_step (first | (exact Calls.calm (in_at (by assumption) _)) | (exact Calls.calm (Control2_at (by assumption) _))))
    refine wpQuiet_nil ?_
    go_upto_region 3 with fail
    refine wp_region_calm ?_
    repeat (go_big_quiet_step (first | (exact Calls.calm (in_at (by assumption) _)) | (exact Calls.calm (Control2_at (by assumption) _))))
    refine wpQuiet_nil ?_
    go_wp2_with fail
    go_ret
    exact ⟨ret_i (by rw [Hs.out]; rfl), rfl⟩
  rw [Bool.not_eq_true] at w2
  by_cases w3 : inR r 13312 19903 = true
  · have Hs := Lib.hid (widC_two Hz.out (k := 3) (by omega) w3)
    go_enter Tryz.func104, Tryz.ntmps104
    go_upto_region 1 with fail
    refine wp_region_calm ?_
    repeat (go_big_quiet_step (first | (exact Calls.calm (in_at (by assumption) _)) | (exact Calls.calm (Control2_at (by assumption) _))))
    refine wpQuiet_nil ?_
    go_upto_region 3 with fail
    refine wp_region_calm ?_
    repeat (go_big_quiet_step (first | (exact Calls.calm (in_at (by assumption) _)) | (exact Calls.calm (Control2_at (by assumption) _))))
    refine wpQuiet_nil ?_
    go_wp2_with fail
    go_ret
    exact ⟨ret_i (by rw [Hs.out]; rfl), rfl⟩
  rw [Bool.not_eq_true] at w3
  by_cases w4 : inR r 19968 42191 = true
  · have Hs := Lib.hid (widC_two Hz.out (k := 4) (by omega) w4)
    go_enter Tryz.func104, Tryz.ntmps104
    go_upto_region 1 with fail
    refine wp_region_calm ?_
    repeat (go_big_quiet_step (first | (exact Calls.calm (in_at (by assumption) _)) | (exact Calls.calm (Control2_at (by assumption) _))))
    refine wpQuiet_nil ?_
    go_upto_region 3 with fail
    refine wp_region_calm ?_
    repeat (go_big_quiet_step (first | (exact Calls.calm (in_at (by assumption) _)) | (exact Calls.calm (Control2_at (by assumption) _))))
    refine wpQuiet_nil ?_
    go_wp2_with fail
    go_ret
    exact ⟨ret_i (by rw [Hs.out]; rfl), rfl⟩
  rw [Bool.not_eq_true] at w4
  by_cases w5 : inR r 44032 55203 = true
  · have Hs := Lib.hid (widC_two Hz.out (k := 5) (by omega) w5)
    go_enter Tryz.func104, Tryz.ntmps104
    go_upto_region 1 with fail
    refine wp_region_calm ?_
    repeat (go_big_quiet_step (first | (exact Calls.calm (in_at (by assumption) _)) | (exact Calls.calm (Control2_at (by assumption) _))))
    refine wpQuiet_nil ?_
    go_upto_region 3 with fail
    refine wp_region_calm ?_
    repeat (go_big_quiet_step (first | (exact Calls.calm (in_at (by assumption) _)) | (exact Calls.calm (Control2_at (by assumption) _))))
    refine wpQuiet_nil ?_
    go_wp2_with fail
    go_ret
    exact ⟨ret_i (by rw [Hs.out]; rfl), rfl⟩
  rw [Bool.not_eq_true] at w5
  by_cases w6 : inR r 63744 64255 = true
  · have Hs := Lib.hid (widC_two Hz.out (k := 6) (by omega) w6)
    go_enter Tryz.func104, Tryz.ntmps104
    go_upto_region 1 with fail
    refine wp_region_calm ?_
    repeat (go_big_quiet_step (first | (exact Calls.calm (in_at (by assumption) _)) | (exact Calls.calm (Control2_at (by assumption) _))))
    refine wpQuiet_nil ?_
    go_upto_region 3 with fail
    refine wp_region_calm ?_
    repeat (go_big_quiet_step (first | (exact Calls.calm (in_at (by assumption) _)) | (exact Calls.calm (Control2_at (by assumption) _))))
    refine wpQuiet_nil ?_
    go_upto_region 5 with fail
    refine wp_region_calm ?_
    repeat (go_big_quiet_step (first | (exact Calls.calm (in_at (by assumption) _)) | (exact Calls.calm (Control2_at (by assumption) _))))
    refine wpQuiet_nil ?_
    go_wp2_with fail
    go_ret
    exact ⟨ret_i (by rw [Hs.out]; rfl), rfl⟩
  rw [Bool.not_eq_true] at w6
  by_cases w7 : inR r 65072 65135 = true
  · have Hs := Lib.hid (widC_two Hz.out (k := 7) (by omega) w7)
    go_enter Tryz.func104, Tryz.ntmps104
    go_upto_region 1 with fail
    refine wp_region_calm ?_
    repeat (go_big_quiet_step (first | (exact Calls.calm (in_at (by assumption) _)) | (exact Calls.calm (Control2_at (by assumption) _))))
    refine wpQuiet_nil ?_
    go_upto_region 3 with fail
    refine wp_region_calm ?_
    repeat (go_big_quiet_step (first | (exact Calls.calm (in_at (by assumption) _)) | (exact Calls.calm (Control2_at (by assumption) _))))
    refine wpQuiet_nil ?_
    go_upto_region 5 with fail
    refine wp_region_calm ?_
    repeat (go_big_quiet_step (first | (exact Calls.calm (in_at (by assumption) _)) | (exact Calls.calm (Control2_at (by assumption) _))))
    refine wpQuiet_nil ?_
    go_wp2_with fail
    go_ret
    exact ⟨ret_i (by rw [Hs.out]; rfl), rfl⟩
  rw [Bool.not_eq_true] at w7
  by_cases w8 : inR r 65280 65376 = true
  · have Hs := Lib.hid (widC_two Hz.out (k := 8) (by omega) w8)
    go_enter Tryz.func104, Tryz.ntmps104
    go_upto_region 1 with fail
    refine wp_region_calm ?_
    repeat (go_big_quiet_step (first | (exact Calls.calm (in_at (by assumption) _)) | (exact Calls.calm (Control2_at (by assumption) _))))
    refine wpQuiet_nil ?_
    go_upto_region 3 with fail
    refine wp_region_calm ?_
    repeat (go_big_quiet_step (first | (exact Calls.calm (in_at (by assumption) _)) | (exact Calls.calm (Control2_at (by assumption) _))))
    refine wpQuiet_nil ?_
    go_upto_region 5 with fail
    refine wp_region_calm ?_
    repeat (go_big_quiet_step (first | (exact Calls.calm (in_at (by assumption) _)) | (exact Calls.calm (Control2_at (by assumption) _))))
    refine wpQuiet_nil ?_
    go_wp2_with fail
    go_ret
    exact ⟨ret_i (by rw [Hs.out]; rfl), rfl⟩
  rw [Bool.not_eq_true] at w8
  by_cases w9 : inR r 65504 65510 = true
  · have Hs := Lib.hid (widC_two Hz.out (k := 9) (by omega) w9)
    go_enter Tryz.func104, Tryz.ntmps104
    go_upto_region 1 with fail
    refine wp_region_calm ?_
    repeat (go_big_quiet_step (first | (exact Calls.calm (in_at (by assumption) _)) | (exact Calls.calm (Control2_at (by assumption) _))))
    refine wpQuiet_nil ?_
    go_upto_region 3 with fail
    refine wp_region_calm ?_
    repeat (go_big_quiet_step (first | (exact Calls.calm (in_at (by assumption) _)) | (exact Calls.calm (Control2_at (by assumption) _))))
    refine wpQuiet_nil ?_
    go_upto_region 5 with fail
    refine wp_region_calm ?_
    repeat (go_big_quiet_step (first | (exact Calls.calm (in_at (by assumption) _)) | (exact Calls.calm (Control2_at (by assumption) _))))
    refine wpQuiet_nil ?_
    go_wp2_with fail
    go_ret
    exact ⟨ret_i (by rw [Hs.out]; rfl), rfl⟩
  rw [Bool.not_eq_true] at w9
  by_cases w10 : inR r 127744 128591 = true
  · have Hs := Lib.hid (widC_two Hz.out (k := 10) (by omega) w10)
    go_enter Tryz.func104, Tryz.ntmps104
    go_upto_region 1 with fail
    refine wp_region_calm ?_
    repeat (go_big_quiet_step (first | (exact Calls.calm (in_at (by assumption) _)) | (exact Calls.calm (Control2_at (by assumption) _))))
    refine wpQuiet_nil ?_
    go_upto_region 3 with fail
    refine wp_region_calm ?_
    repeat (go_big_quiet_step (first | (exact Calls.calm (in_at (by assumption) _)) | (exact Calls.calm (Control2_at (by assumption) _))))
    refine wpQuiet_nil ?_
    go_upto_region 5 with fail
    refine wp_region_calm ?_
    repeat (go_big_quiet_step (first | (exact Calls.calm (in_at (by assumption) _)) | (exact Calls.calm (Control2_at (by assumption) _))))
    refine wpQuiet_nil ?_
    go_wp2_with fail
    go_ret
    exact ⟨ret_i (by rw [Hs.out]; rfl), rfl⟩
  rw [Bool.not_eq_true] at w10
  by_cases w11 : inR r 129280 129535 = true
  · have Hs := Lib.hid (widC_two Hz.out (k := 11) (by omega) w11)
    go_enter Tryz.func104, Tryz.ntmps104
    go_upto_region 1 with fail
    refine wp_region_calm ?_
    repeat (go_big_quiet_step (first | (exact Calls.calm (in_at (by assumption) _)) | (exact Calls.calm (Control2_at (by assumption) _))))
    refine wpQuiet_nil ?_
    go_upto_region 3 with fail
    refine wp_region_calm ?_
    repeat (go_big_quiet_step (first | (exact Calls.calm (in_at (by assumption) _)) | (exact Calls.calm (Control2_at (by assumption) _))))
    refine wpQuiet_nil ?_
    go_upto_region 5 with fail
    refine wp_region_calm ?_
    repeat (go_big_quiet_step (first | (exact Calls.calm (in_at (by assumption) _)) | (exact Calls.calm (Control2_at (by assumption) _))))
    refine wpQuiet_nil ?_
    go_wp2_with fail
    go_ret
    exact ⟨ret_i (by rw [Hs.out]; rfl), rfl⟩
  rw [Bool.not_eq_true] at w11
  by_cases w12 : inR r 131072 262141 = true
  · have Hs := Lib.hid (widC_two Hz.out (k := 12) (by omega) w12)
    go_enter Tryz.func104, Tryz.ntmps104
    go_upto_region 1 with fail
    refine wp_region_calm ?_
    repeat (go_big_quiet_step (first | (exact Calls.calm (in_at (by assumption) _)) | (exact Calls.calm (Control2_at (by assumption) _))))
    refine wpQuiet_nil ?_
    go_upto_region 3 with fail
    refine wp_region_calm ?_
    repeat (go_big_quiet_step (first | (exact Calls.calm (in_at (by assumption) _)) | (exact Calls.calm (Control2_at (by assumption) _))))
    refine wpQuiet_nil ?_
    go_upto_region 5 with fail
    refine wp_region_calm ?_
    repeat (go_big_quiet_step (first | (exact Calls.calm (in_at (by assumption) _)) | (exact Calls.calm (Control2_at (by assumption) _))))
    refine wpQuiet_nil ?_
    go_wp2_with fail
    go_ret
    exact ⟨ret_i (by rw [Hs.out]; rfl), rfl⟩
  rw [Bool.not_eq_true] at w12
  have Hs := Lib.hid (widC_one Hz.out (fun k hk => by
    rcases (by omega : k = 0 ∨ k = 1 ∨ k = 2 ∨ k = 3 ∨ k = 4 ∨ k = 5 ∨ k = 6 ∨ k = 7 ∨ k = 8 ∨ k = 9 ∨ k = 10 ∨ k = 11 ∨ k = 12) with rfl | rfl | rfl | rfl | rfl | rfl | rfl | rfl | rfl | rfl | rfl | rfl | rfl
    · exact w0
    · exact w1
    · exact w2
    · exact w3
    · exact w4
    · exact w5
    · exact w6
    · exact w7
    · exact w8
    · exact w9
    · exact w10
    · exact w11
    · exact w12))
  go_enter Tryz.func104, Tryz.ntmps104
  go_upto_region 1 with fail
  refine wp_region_calm ?_
  repeat (go_big_quiet_step (first | (exact Calls.calm (in_at (by assumption) _)) | (exact Calls.calm (Control2_at (by assumption) _))))
  refine wpQuiet_nil ?_
  go_upto_region 3 with fail
  refine wp_region_calm ?_
  repeat (go_big_quiet_step (first | (exact Calls.calm (in_at (by assumption) _)) | (exact Calls.calm (Control2_at (by assumption) _))))
  refine wpQuiet_nil ?_
  go_upto_region 5 with fail
  refine wp_region_calm ?_
  repeat (go_big_quiet_step (first | (exact Calls.calm (in_at (by assumption) _)) | (exact Calls.calm (Control2_at (by assumption) _))))
  refine wpQuiet_nil ?_
  go_wp2_with fail
  go_ret
  exact ⟨ret_i (by rw [Hs.out]; rfl), rfl⟩
end Go.Proofs.YtohngjkedhpikaaGreatDoor
