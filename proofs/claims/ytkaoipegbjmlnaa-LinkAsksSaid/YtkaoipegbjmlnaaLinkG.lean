/-
  LINK, THE DOCUMENT's, G: the grid: which topic refers to which.
-/
import Derived.Test.YtkaoipegbjmlnaaLinkC
import Derived.Test.YtkaoipegbjmlnaaOwn
namespace Go.Proofs.Ytkaoipegbjmlnaa
open Go.RowKit
attribute [local go_sem] Old.refl Old.alloc Old.drew Old.setCell OldW.old

def boolE : Enc Bool where
  k := 1
  enc x := [.bool x]
  len _ := rfl
  one x u hu := by
    simp only [List.mem_cons, List.not_mem_nil, or_false] at hu
    rcases hu with rfl; rfl
/-- a row of n, or none yet -/
def slcE (n : Nat) : Enc (Option Nat) where
  k := 1
  enc x := [match x with | none => .slice none 0 0 | some g => .slice (some ⟨g, 0, none⟩) n n]
  len _ := rfl
  one x u hu := by
    simp only [List.mem_cons, List.not_mem_nil, or_false] at hu
    rcases hu with rfl
    cases x <;> rfl
theorem infoBool : (Try.prog.info? 4).map (fun i => (i.zero, i.size, i.bytes)) = some (some (.bool false), 1, 1) := by kernel_rfl
theorem infoSlB : (Try.prog.info? 54).map (fun i => (i.zero, i.size, i.bytes)) = some (some (.slice none 0 0), 1, 24) := by kernel_rfl
section
variable {P : Program} {ops : Array Oper} {rest : List Oper} {o : Oper} {a : Act} {Q : Exit → Act → World → Prop}
theorem wpList_make_enc {α : Type} {c : Enc α} {w0 w : World} (hg : o.guard = none) (l cc : Operand) (T : TypeId) (hop : o.op = Op.makeSlice T l cc) (E : TypeId) (ht : P.underlying T = some (.slice E)) (zv : Value) {bytes : Nat}
    (hinfo : (P.info? E).map (fun i => (i.zero, i.size, i.bytes)) = some (some zv, 1, bytes)) (hcz : zv.cells = #[zv]) (hk : c.k = 1) (z0 : α) (hz : c.enc z0 = [zv]) (n : Nat) (hl : a.eval l = .int .i64 n) (hc : a.eval cc = .int .i64 n) (hn : n * bytes ≤ 140737488355328) (hn2 : n ≤ 1073741824) (hold : Old w0 w)
    (hK : ∀ w', OwnS c E w0 w' (.slice (some ⟨w.heap.size, 0, none⟩) n n) (List.replicate n z0) → Old w w' → w.heap.size < w'.heap.size → wpList P ops Q rest (a.put o.dst (.slice (some ⟨w.heap.size, 0, none⟩) n n)) w') : wpList P ops Q (o :: rest) a w := by
  obtain ⟨i, hi, hz0, hz1, hz2⟩ := info_parts hinfo
  refine wpList_make_full w hg l cc T hop w0.heap.size E i zv 1 ht hi hz0 hz1 .i64 .i64 n n n hl hc rfl rfl (by rw [hz2]; first | omega | (rw [Nat.mul_comm]; omega)) (by simp [maxLen]; omega) hold.size fun w' h1 h2 => ?_
  refine hK w' ?_ ⟨h2.os, h2.tape, h2.output, h2.size, fun k hk => h2.block k hk (by simp)⟩ (h1.lt _ rfl).2
  unfold OwnS
  rw [List.length_replicate, hk]
  have e : c.all (List.replicate n z0) = List.replicate n zv := by
    clear h1 h2 hK hl hc hn hn2
    induction n with
    | zero => rfl
    | succ n ih => rw [List.replicate_succ, Enc.all_cons, ih, hz]; rfl
  rw [e]
  simpa [toList_madeCells_one, hcz] using h1
end
/-- a row of the grid -/
def rowM (l : List Rfr) (tp : Int) (n i : Nat) : List Bool := (List.range n).map fun j : Nat => edge l tp i j
theorem rowM_len (l : List Rfr) (tp : Int) (n i : Nat) : (rowM l tp n i).length = n := by simp [rowM]
theorem rowM_get {l : List Rfr} {tp : Int} {n i j : Nat} (h : j < n) : (rowM l tp n i)[j]? = some (edge l tp i j) := by
  unfold rowM
  rw [List.getElem?_map, List.getElem?_range h]; rfl
theorem rowM_nil (tp : Int) (n i : Nat) : rowM [] tp n i = List.replicate n false := by
  unfold rowM
  exact List.ext_getElem? fun j => by
    rw [List.getElem?_map, List.getElem?_replicate]
    by_cases h : j < n
    · rw [List.getElem?_range h, if_pos h]; rfl
    · rw [List.getElem?_eq_none (by simp; omega), if_neg h]; rfl
theorem edge_snoc (l : List Rfr) (x : Rfr) (tp a b : Int) : edge (l ++ [x]) tp a b = (edge l tp a b || (cntR x tp && (x.f == a && x.t == b))) := by
  unfold edge
  rw [List.any_append]; simp
theorem rowM_skip {l : List Rfr} {x : Rfr} {tp : Int} {n i : Nat} (h : ¬ (cntR x tp = true ∧ x.f = i)) : rowM (l ++ [x]) tp n i = rowM l tp n i := by
  unfold rowM
  refine List.map_congr_left fun j _ => ?_
  rw [edge_snoc]
  have : (cntR x tp && (x.f == (i : Int) && x.t == (j : Int))) = false := by
    cases hc : cntR x tp
    · rfl
    · have hf : (x.f == (i : Int)) = false := by rw [beq_eq_false_iff_ne]; exact fun e => h ⟨hc, e⟩
      rw [hf]; rfl
  rw [this, Bool.or_false]
theorem rowM_set {l : List Rfr} {x : Rfr} {tp : Int} {n i k : Nat} (hc : cntR x tp = true) (hf : x.f = i) (ht : x.t = k) : rowM (l ++ [x]) tp n i = (rowM l tp n i).set k true := by
  refine List.ext_getElem? fun j => ?_
  by_cases hj : j < n
  · rw [rowM_get hj, edge_snoc, hc, hf, ht]
    by_cases e : k = j
    · subst e
      rw [List.getElem?_set_self (by rw [rowM_len]; exact hj)]; simp
    · rw [List.getElem?_set_ne e, rowM_get hj]
      have : ((k : Int) == (j : Int)) = false := by rw [beq_eq_false_iff_ne]; omega
      rw [this]; simp
  · rw [List.getElem?_eq_none (by rw [rowM_len]; omega), List.getElem?_eq_none (by rw [List.length_set, rowM_len]; omega)]
/-- a grid, read -/
def Grid (w : World) (v : Value) (n : Nat) (E : Int → Int → Bool) : Prop :=
  ∃ (G : Nat) (B : List Nat), v = .slice (some ⟨G, 0, none⟩) n n ∧ B.length = n ∧ ∀ (i g : Nat), B[i]? = some g →
    (∀ W, Old w W → W.cell? ⟨G, i, none⟩ = some (.slice (some ⟨g, 0, none⟩) n n)) ∧ ∀ j : Nat, j < n → ∀ W, Old w W → W.cell? ⟨g, j, none⟩ = some (.bool (E i j))
theorem Grid.old {w w' : World} {v : Value} {n : Nat} {E : Int → Int → Bool} (h : Grid w v n E) (o : Old w w') : Grid w' v n E := by
  obtain ⟨G, B, e, hb, h⟩ := h
  exact ⟨G, B, e, hb, fun i g hg => ⟨fun W hW => (h i g hg).1 W (o.trans hW), fun j hj W hW => (h i g hg).2 j hj W (o.trans hW)⟩⟩
/-- what the document's grid gives -/
def RetG (w' : World) (E : Int) (n : Nat) (R : Int → Int → Bool) (e : Ending) : Prop := ∃ v, e = .returned (.tuple #[v, .int .i64 E]) ∧ (E = 0 → Grid w' v n R)
end Go.Proofs.Ytkaoipegbjmlnaa
