/-
  SLICES OF NUMBERS OF ANY KIND, over no program: as 'Ints', 'OwnI' of the ground, the kind a variable.
-/
import Derived.Test.YtpifkinlaicliaaGreatDoorZOwn
import Derived.Test.YtpifkinlaicliaaGreatDoorZTextElems2
import Derived.StillTailTactics
import Derived.Laws.IdiomStrings
namespace Go.Proofs.YtpifkinlaicliaaGreatDoor
open Go.RowKit
variable {k : IntKind}

def Nums (k : IntKind) (w : World) (v : Value) (l : List Int) : Prop :=
  ∃ a cap b off, v = .slice a l.length cap ∧ l.length ≤ cap ∧ cap ≤ 9223372036854775807 ∧ (0 < l.length → a = some ⟨b, off, none⟩) ∧ ∀ i, i < l.length → ∀ W, Old w W → W.cell? ⟨b, off + i, none⟩ = some (.int k (ix l i))
theorem Nums.old {w w' : World} {v : Value} {l : List Int} (h : Nums k w v l) (o : Old w w') : Nums k w' v l := by
  obtain ⟨a, cap, b, off, e, h1, h2, h3, h4⟩ := h
  exact ⟨a, cap, b, off, e, h1, h2, h3, fun i hi W hW => h4 i hi W (o.trans hW)⟩
theorem Nums.nil (w : World) : Nums k w (.slice none 0 0) [] := ⟨none, 0, 0, 0, rfl, by simp, by simp, by simp, by simp⟩
theorem Nums.mk {w : World} {b off cap : Nat} {l : List Int} (h1 : l.length ≤ cap) (h2 : cap ≤ 9223372036854775807) (h : ∀ i, i < l.length → w.cell? ⟨b, off + i, none⟩ = some (.int k (ix l i))) :
    Nums k w (.slice (some ⟨b, off, none⟩) l.length cap) l := ⟨_, cap, b, off, rfl, h1, h2, fun _ => rfl, fun i hi => later (h i hi)⟩
theorem Nums.of_row {w : World} {base e : Nat} {v : Value} {l : List Int} {n : Nat} (hn : n = l.length) (h : w.ownsRow base e 1 v n (l.map (.int k))) : Nums k w v l := by
  subst hn
  obtain ⟨hl, h⟩ := h
  rcases h with ⟨rfl, h0⟩ | ⟨g, cap, cur, rfl, hb, hg, hnc, hcm, hcs, htake⟩
  · have : l = [] := List.eq_nil_of_length_eq_zero h0
    subst this; exact Nums.nil w
  · refine Nums.mk hnc (by simpa [maxLen] using hcm) fun i hi => ?_
    have hown : w.ownsRow base e 1 (.slice (some ⟨g, 0, none⟩) l.length cap) l.length (l.map (.int k)) := ⟨hl, .inr ⟨g, cap, cur, rfl, hb, hg, hnc, hcm, hcs, htake⟩⟩
    rw [Nat.zero_add, hown.cellAt i (by omega)]
    simp [ix, List.getD, hi]
theorem Nums.one (w : World) (E : TypeId) (x : Int) : Nums k (w.alloc (.cells #[.int k x] E)) (.slice (some ⟨w.heap.size, 0, none⟩) 1 1) [x] :=
  Nums.mk (l := [x]) (cap := 1) (by simp) (by simp) (fun i hi => by
    obtain rfl : i = 0 := by simpa using hi
    simp [go_sem, ix])
def OwnN (k : IntKind) (E : TypeId) (w0 w : World) (v : Value) (l : List Int) : Prop := w.ownsRow w0.heap.size E 1 v l.length (l.map (.int k))
theorem OwnN.nums {E : TypeId} {w0 w : World} {v : Value} {l : List Int} (h : OwnN k E w0 w v l) : Nums k w v l := Nums.of_row rfl h
theorem OwnN.nil (E : TypeId) (w0 w : World) : OwnN k E w0 w (.slice none 0 0) [] := World.ownsRow_nil w _ E 1
theorem OwnN.kept {E : TypeId} {w0 w w' : World} {v : Value} {l : List Int} {row : Option Nat} (h : OwnN k E w0 w v l) (hg : w.grownBy w' row) (hne : v.ownBlock = none ∨ v.ownBlock ≠ row) : OwnN k E w0 w' v l := World.ownsRow.kept h hg hne
theorem OwnN.alloc {E : TypeId} {w0 w : World} {v : Value} {l : List Int} (h : OwnN k E w0 w v l) (o : Obj) : OwnN k E w0 (w.alloc o) v l := World.ownsRow.alloc h o
theorem OwnN.old {E : TypeId} {w0 w w' : World} {v : Value} {l : List Int} (h : OwnN k E w0 w v l) (o : Old w w') : OwnN k E w0 w' v l := by
  have hg := Old.grownBy o none
  exact World.ownsRow.kept h hg (by cases hv : v.ownBlock <;> simp)
theorem OwnN.len {E : TypeId} {w0 w : World} {a : Option Addr} {n cap : Nat} {l : List Int} (h : OwnN k E w0 w (.slice a n cap) l) : n = l.length := by
  obtain ⟨a', cap', e, _⟩ := ownsRow_form h
  simp at e
  exact e.2.1
theorem OwnN.block {E : TypeId} {w0 w : World} {a : Option Addr} {n cap : Nat} {l : List Int} (h : OwnN k E w0 w (.slice a n cap) l) (hl : 0 < l.length) : ∃ g, a = some ⟨g, 0, none⟩ ∧ w0.heap.size ≤ g ∧ g < w.heap.size := by
  obtain ⟨h1, ⟨h2, h0⟩ | ⟨g, c, cur, e, hb, hg, _⟩⟩ := h
  · omega
  · simp at e
    exact ⟨g, e.1, hb, (Array.getElem?_eq_some_iff.1 hg).1⟩
theorem OwnN.cell {E : TypeId} {w0 w : World} {g n cap : Nat} {l : List Int} (h : OwnN k E w0 w (.slice (some ⟨g, 0, none⟩) n cap) l) {j : Nat} (hk : j < l.length) : w.cell? ⟨g, j, none⟩ = some (.int k (ix l j)) := by
  obtain rfl := h.len
  rw [World.ownsRow.cellAt h j (by omega)]
  simp [ix, List.getD, hk]
theorem OwnN.frozen {E : TypeId} {w0 w : World} {g n cap : Nat} {l : List Int} (h : OwnN k E w0 w (.slice (some ⟨g, 0, none⟩) n cap) l) (j : Nat) : w.frozen? ⟨g, j, none⟩ = false := by
  obtain rfl := h.len
  exact World.ownsRow.frozenAt h j
theorem OwnN.stored {E : TypeId} {w0 w : World} {g n cap : Nat} {l : List Int} (h : OwnN k E w0 w (.slice (some ⟨g, 0, none⟩) n cap) l) (j : Nat) (x : Int) : OwnN k E w0 (w.setCell ⟨g, j, none⟩ (.int k x)) (.slice (some ⟨g, 0, none⟩) n cap) (l.set j x) := by
  obtain rfl := h.len
  have := (World.ownsRow.stored h j (.int k x)).1
  unfold OwnN
  rw [List.length_set, List.map_set]
  exact this
theorem OwnN.drew {E : TypeId} {w0 w : World} {v : Value} {l : List Int} (h : OwnN k E w0 w v l) : OwnN k E w0 w.drew v l := h
theorem Nums.form {w : World} {v : Value} {l : List Int} (h : Nums k w v l) : ∃ a cap, v = .slice a l.length cap ∧ l.length ≤ cap ∧ cap ≤ 9223372036854775807 := by
  obtain ⟨a, cap, b, off, e, h1, h2, _⟩ := h; exact ⟨a, cap, e, h1, h2⟩
theorem OwnN.lower {E : TypeId} {w0 w1 w : World} {v : Value} {l : List Int} (h : OwnN k E w1 w v l) (hs : w0.heap.size ≤ w1.heap.size) : OwnN k E w0 w v l := by
  obtain ⟨h1, h2⟩ := h
  refine ⟨h1, ?_⟩
  rcases h2 with h2 | ⟨g, cap, cur, e, hb, r⟩
  · exact .inl h2
  · exact .inr ⟨g, cap, cur, e, Nat.le_trans hs hb, r⟩
theorem OwnN.but {E : TypeId} {w0 w w' : World} {a : Option Addr} {n cap : Nat} {l : List Int} {g : Nat} (h : OwnN k E w0 w (.slice a n cap) l) (o : OldBut g w w') (hg : ∀ x, a = some x → x.block ≠ g) : OwnN k E w0 w' (.slice a n cap) l := by
  obtain ⟨h1, h2⟩ := h
  refine ⟨h1, ?_⟩
  rcases h2 with h2 | ⟨g', cap', cur, e, hb, hc, r⟩
  · exact .inl h2
  · refine .inr ⟨g', cap', cur, e, hb, ?_, r⟩
    simp at e
    rw [o.block g' (Array.getElem?_eq_some_iff.1 hc).1 (hg _ e.1)]
    exact hc
theorem OwnN.setCell_other {E : TypeId} {w0 w : World} {a : Option Addr} {n cap : Nat} {l : List Int} {g o : Nat} (h : OwnN k E w0 w (.slice a n cap) l) (v : Value) (hg : ∀ x, a = some x → x.block ≠ g) : OwnN k E w0 (w.setCell ⟨g, o, none⟩ v) (.slice a n cap) l :=
  h.but ((OldBut.refl g w).setCell o v) hg
section
variable {P : Program} {ops : Array Oper} {rest : List Oper} {o : Oper} {a : Act} {Q : Exit → Act → World → Prop}
theorem nums_one (l : List Int) : ∀ u ∈ l.map (Value.int k), u.oneCell' = true := ints_oneCell k l
theorem Nums.cells {w : World} {b off : Nat} {l : List Int} (h4 : ∀ i, i < l.length → ∀ W, Old w W → W.cell? ⟨b, off + i, none⟩ = some (.int k (ix l i))) {W : World} (hW : Old w W) :
    ∀ j u, (l.map (Value.int k))[j]? = some u → W.cell? ((⟨b, off, none⟩ : Addr).add j) = some u := by
  intro j u hu
  have hj : j < l.length := by simpa using (List.getElem?_eq_some_iff.1 hu).1
  rw [Addr.add_lit, h4 j hj W hW, ← hu]
  simp [ix, List.getD, hj]
theorem wpList_append_nums {w0 w : World} (hgd : o.guard = none) (s x : Operand) (T : TypeId) (ho : o.op = .call { callee := .builtin .append, args := #[s, x], argTypes := #[T, T] })
    (E : TypeId) (ht : P.underlying T = some (.slice E)) {bytes : Nat} (hinfo : (P.info? E).map (fun i => (i.zero, i.size, i.bytes)) = some (some (.int k 0), 1, bytes))
    (v : Value) (l u : List Int) (hs : a.eval s = v) (hown : OwnN k E w0 w v l) (vx : Value) (hx : a.eval x = vx) (hu : Nums k w vx u)
    (h63 : l.length + u.length ≤ 9223372036854775807) (hbytes : (l.length + u.length) * bytes ≤ 140737488355328) (hold : Old w0 w)
    (h : ∀ v' w', OwnN k E w0 w' v' (l ++ u) → Old w0 w' → w.grownBy w' v.ownBlock → wpList P ops Q rest (a.put o.dst v') w') : wpList P ops Q (o :: rest) a w := by
  obtain ⟨ao, cap, b, off, rfl, hn1, hn2, ha, ht0⟩ := hu
  exact wpList_append_any hgd s x T ho E ht (.int k 0) 1 bytes hinfo rfl (by decide) v l.length (l.map (.int k)) hs hown ao u.length cap (u.map (.int k)) hx (by simp) ⟨b, off, none⟩ ha (Nums.cells ht0 (Old.refl w)) (nums_one u)
    h63 hbytes hold (fun v' w' k1 k2 k3 => h v' w' (by unfold OwnN; rw [List.map_append, List.length_append]; exact k1) k2 k3)
theorem wpList_make_nums {w0 w : World} (hg : o.guard = none) (l c : Operand) (T : TypeId) (hop : o.op = Op.makeSlice T l c) (E : TypeId) (ht : P.underlying T = some (.slice E))
    {bytes : Nat} (hinfo : (P.info? E).map (fun i => (i.zero, i.size, i.bytes)) = some (some (.int k 0), 1, bytes)) (n : Nat) (hl : a.eval l = .int .i64 n) (hc : a.eval c = .int .i64 n) (hn : n ≤ 9223372036854775807) (hnb : bytes * n ≤ 281474976710656) (hold : Old w0 w)
    (hK : ∀ w', OwnN k E w0 w' (.slice (some ⟨w.heap.size, 0, none⟩) n n) (List.replicate n 0) → Old w w' → w.heap.size < w'.heap.size → wpList P ops Q rest (a.put o.dst (.slice (some ⟨w.heap.size, 0, none⟩) n n)) w') : wpList P ops Q (o :: rest) a w := by
  obtain ⟨i, hi, hz0, hz1, hz2⟩ := info_parts hinfo
  refine wpList_make_full w hg l c T hop w0.heap.size E i (.int k 0) 1 ht hi hz0 hz1 .i64 .i64 n n n hl hc rfl rfl (by rw [hz2]; exact hnb) (by simpa [maxLen] using hn) hold.size fun w' h1 h2 => ?_
  refine hK w' ?_ ⟨h2.os, h2.tape, h2.output, h2.size, fun k hk => h2.block k hk (by simp)⟩ (h1.lt _ rfl).2
  unfold OwnN
  rw [List.length_replicate, List.map_replicate]
  simpa [toList_madeCells_one, Value.cells] using h1
theorem wpList_append_num1 {w0 w : World} (hgd : o.guard = none) (s x : Operand) (T : TypeId) (ho : o.op = .call { callee := .builtin .append, args := #[s, x], argTypes := #[T, T] })
    (E : TypeId) (ht : P.underlying T = some (.slice E)) {bytes : Nat} (hinfo : (P.info? E).map (fun i => (i.zero, i.size, i.bytes)) = some (some (.int k 0), 1, bytes))
    (v : Value) (l : List Int) (hs : a.eval s = v) (hown : OwnN k E w0 w v l) (b : Nat) (y : Int) (hx : a.eval x = .slice (some ⟨b, 0, none⟩) 1 1) (hc : w.cell? ⟨b, 0, none⟩ = some (.int k y))
    (h63 : l.length + 1 ≤ 9223372036854775807) (hbytes : (l.length + 1) * bytes ≤ 140737488355328) (hold : w0.heap.size ≤ w.heap.size)
    (h : ∀ v' w', OwnN k E w0 w' v' (l ++ [y]) → w.grownBy w' v.ownBlock → wpList P ops Q rest (a.put o.dst v') w') : wpList P ops Q (o :: rest) a w := by
  obtain ⟨i, hi, hz0, hz1, hz2⟩ := info_parts hinfo
  refine wpList_append_own w hgd s x T ho w0.heap.size E i (.int k 0) 1 bytes ht hi hz0 hz1 hz2 rfl (by decide) v l.length (l.map (.int k)) hs hown ⟨b, 0, none⟩ 1 1 [.int k y] hx rfl ?_ (by simp [Value.oneCell']) (by simpa [maxLen] using h63) hbytes hold ?_
  · intro j u hu
    match j, hu with
    | 0, hu => simp at hu; subst hu; exact hc
  · intro v' w' a1 a2 _
    refine h v' w' ?_ a2
    unfold OwnN
    rw [List.map_append, List.length_append]
    exact a1
end

end Go.Proofs.YtpifkinlaicliaaGreatDoor
/-
  TEXT, COMPARE: or, elements compared.
-/



namespace Go.Proofs.YtpifkinlaicliaaGreatDoor
open Go.RowKit
attribute [local go_sem] Old.refl Old.alloc Old.drew Old.setCell OldW.old

/-- the first that is not nought -/
def orL : List Int → Int
  | [] => 0
  | x :: r => if x = 0 then orL r else x
theorem orL_hit {l : List Int} {k : Nat} (h : k < l.length) (h' : ¬ ix l k = 0) : orL (l.drop k) = ix l k := by
  have e : ix l k = l[k] := by simp [ix, List.getD, List.getElem?_eq_getElem h]
  rw [List.drop_eq_getElem_cons h, orL, if_neg (by rw [← e]; exact h'), e]
theorem orL_skip {l : List Int} {k : Nat} (h : k < l.length) (h' : ix l k = 0) : orL (l.drop k) = orL (l.drop (k + 1)) := by
  have e : ix l k = l[k] := by simp [ix, List.getD, List.getElem?_eq_getElem h]
  rw [List.drop_eq_getElem_cons h, orL, if_pos (by rw [← e]; exact h')]
theorem Nums.fresh {k : IntKind} (w : World) (E : TypeId) (l : List Int) (h : l.length ≤ 9223372036854775807 := by simp) : Nums k (w.alloc (.cells (l.map (Value.int k)).toArray E)) (.slice (some ⟨w.heap.size, 0, none⟩) l.length l.length) l :=
  Nums.mk (Nat.le_refl _) h (fun i hi => by simp [go_sem, ix, hi])
theorem Or_any (v : Value) (l : List Int) (w : World) (h : Nums .i64 w v l) :
    Calls Tryz.prog 47 #[v] w fun e w' => e = .returned (.int .i64 (orL l)) ∧ w' = w := by
  obtain ⟨a, cap, b, off, rfl, hc1, hc2, ha, ht⟩ := h
  have Ha := Lib.hid ha
  have Ht := Lib.hid ht
  clear ha ht
  go_enter Tryz.func47, Tryz.ntmps47
  go_wp2_with fail
  go_loopw [8] (fun j wr => ∃ k : Nat, k ≤ l.length ∧ j = .int .i64 k ∧ orL (l.drop k) = orL l ∧ wr = w) (fun j _ => l.length - (intOf j).toNat)
  case atStart => exact ⟨0, Nat.zero_le _, rfl, rfl, by trivial⟩
  case round =>
    obtain ⟨k, hk, rfl, hat, rfl⟩ := hrel
    have Hat := Lib.hid hat
    clear hat
    by_cases hlt : k < l.length
    · have hk1 : (k : Int) < l.length := by omega
      obtain rfl := Ha.out (by omega)
      have k0 := Ht.out k hlt wr (Old.refl wr)
      by_cases h0 : ix l k = 0
      · have Hs := Lib.hid (orL_skip hlt h0)
        have hb : (ix l k != 0) = false := by rw [bne_eq_false_iff_eq]; exact h0
        go_wp2_with fail
        go_roundw
        case rel => exact ⟨k + 1, by omega, by go_num, by rw [← Hs.out]; exact Hat.out, by trivial⟩
        case measure => simp [intOf]; omega
      · have Hs := Lib.hid (orL_hit hlt h0)
        have hb : (ix l k != 0) = true := by rw [bne_iff_ne]; exact h0
        clear h0
        go_wp2_with fail
        go_ret
        exact ⟨by rw [← Hat.out, Hs.out]; rfl, rfl⟩
    · obtain rfl : k = l.length := by omega
      have He := Lib.hid (show orL l = 0 from by rw [← Hat.out, List.drop_length]; rfl)
      go_wp2_with fail
      go_ret
      exact ⟨by rw [He.out]; rfl, rfl⟩
/-- cmp.Compare at rune -/
theorem Cmp32_any (x y : Int) (w : World) : Calls Tryz.prog 85 #[.int .i32 x, .int .i32 y] w fun e w' => e = .returned (.int .i64 (Lib.compareInt x y)) ∧ w' = w := by
  go_enter Tryz.func85, Tryz.ntmps85
  go_wp2
  all_goals
    go_ret
    refine ⟨?_, rfl⟩
    unfold Lib.compareInt
    first
      | (rw [if_pos (by omega)]; rfl)
      | (rw [if_neg (by omega), if_pos (by omega)]; rfl)
      | (rw [if_neg (by omega), if_neg (by omega)]; rfl)
/-- two elements -/
def cmpEl (a b : El) : Int :=
  if Lib.compareInt a.k b.k ≠ 0 then Lib.compareInt a.k b.k
  else if a.k = 1 then orL [Lib.compareInt a.d.size b.d.size, Lib.compareBytes a.d.data.toList b.d.data.toList]
  else Lib.compareInt a.r b.r
def elV (x : El) : Value := .agg #[.int .i64 x.k, .int .i32 x.r, .string x.d]
theorem compareInt_zero (x : Int) : Lib.compareInt x x = 0 := by unfold Lib.compareInt; rw [if_neg (by omega), if_neg (by omega)]
theorem compareInt_eq {x y : Int} (h : Lib.compareInt x y = 0) : x = y := by
  unfold Lib.compareInt at h
  split at h
  · omega
  · split at h
    · omega
    · omega
set_option maxRecDepth 100000 in
set_option maxHeartbeats 1600000 in
theorem compareElements_any (a b : El) (w : World) :
    Calls Tryz.prog 83 #[elV a, elV b] w fun e w' => e = .returned (.int .i64 (cmpEl a b)) ∧ Old w w' := by
  obtain ⟨ak, ar, ad⟩ := a
  obtain ⟨bk, br, bd⟩ := b
  unfold elV
  dsimp only
  by_cases h1 : Lib.compareInt ak bk = 0
  · have h1b : (Lib.compareInt ak bk != 0) = false := by rw [bne_eq_false_iff_eq]; exact h1
    by_cases h2 : ak = 1
    · have h2b : ((ak : Int) == 1) = true := by rw [beq_iff_eq]; omega
      have HC := Lib.hid (fun w => Tryz.cmp_Compare_int ak bk w)
      have Hs := Lib.hid (show cmpEl ⟨ak, ar, ad⟩ ⟨bk, br, bd⟩ = orL [Lib.compareInt ad.size bd.size, Lib.compareBytes ad.data.toList bd.data.toList] from by unfold cmpEl; rw [if_neg (by simpa using h1), if_pos h2])
      clear h1 h2
      go_enter Tryz.func83, Tryz.ntmps83
      go_upto_region 5 with (first | (go_at_call 84; refine (HC.out _).mono ?_; rintro e w1 ⟨rfl, rfl⟩))
      have ho : Old w ((w.alloc (.cells #[.int .i64 ak, .int .i32 ar, .string ad] 144)).alloc (.cells #[.int .i64 bk, .int .i32 br, .string bd] 144)) := ((Old.refl w).alloc _).alloc _
      have c2 : ((w.alloc (.cells #[.int .i64 ak, .int .i32 ar, .string ad] 144)).alloc (.cells #[.int .i64 bk, .int .i32 br, .string bd] 144)).drew.cell? ⟨w.heap.size, 2, none⟩ = some (.string ad) := by simp [go_sem]
      have d2 : ((w.alloc (.cells #[.int .i64 ak, .int .i32 ar, .string ad] 144)).alloc (.cells #[.int .i64 bk, .int .i32 br, .string bd] 144)).drew.cell? ⟨w.heap.size + 1, 2, none⟩ = some (.string bd) := by simp [go_sem]
      generalize (w.alloc (.cells #[.int .i64 ak, .int .i32 ar, .string ad] 144)).alloc (.cells #[.int .i64 bk, .int .i32 br, .string bd] 144) = w5 at *
      refine wp_region_still_tail 12 (by kernel_rfl) (by kernel_rfl) ?_
      change wpStill _ _ w5.drew (fun a' => wpList _ _ _ _ a' w5.drew) _ _
      have ho5 : Old w w5.drew := ho.drew
      clear ho
      generalize w5.drew = w6 at *
      simp only [List.take_succ_cons, List.take_zero, List.drop_succ_cons, List.drop_zero]
      repeat still_step
      still_call (Tryz.cmp_Compare_int _ _ _)
      repeat still_step
      still_call (Tryz.strings_Compare _ _ _)
      refine wpStill_nil ?_
      go_wp2_with fail
      refine (Or_any _ [Lib.compareInt ad.size bd.size, Lib.compareBytes ad.data.toList bd.data.toList] _ (Nums.fresh w6 3 _)).mono ?_
      rintro e w7 ⟨rfl, rfl⟩
      go_wp2_with fail
      go_ret
      exact ⟨by rw [Hs.out]; rfl, ho5.alloc _⟩
    · have h2b : ((ak : Int) == 1) = false := by rw [beq_eq_false_iff_ne]; omega
      have HC := Lib.hid (fun w => Tryz.cmp_Compare_int ak bk w)
      have HR := Lib.hid (fun w => Cmp32_any ar br w)
      have Hs := Lib.hid (show cmpEl ⟨ak, ar, ad⟩ ⟨bk, br, bd⟩ = Lib.compareInt ar br from by unfold cmpEl; rw [if_neg (by simpa using h1), if_neg h2])
      clear h1
      go_enter Tryz.func83, Tryz.ntmps83
      go_wp2_with (first | (go_at_call 84; refine (HC.out _).mono ?_; rintro e w1 ⟨rfl, rfl⟩) | (go_at_call 85; refine (HR.out _).mono ?_; rintro e w1 ⟨rfl, rfl⟩))
      go_ret
      exact ⟨by rw [Hs.out]; rfl, ((Old.refl w).alloc _).alloc _⟩
  · have h1b : (Lib.compareInt ak bk != 0) = true := by rw [bne_iff_ne]; exact h1
    have HC := Lib.hid (fun w => Tryz.cmp_Compare_int ak bk w)
    have Hs := Lib.hid (show cmpEl ⟨ak, ar, ad⟩ ⟨bk, br, bd⟩ = Lib.compareInt ak bk from by unfold cmpEl; rw [if_pos h1])
    clear h1
    go_enter Tryz.func83, Tryz.ntmps83
    go_wp2_with (first | (go_at_call 84; refine (HC.out _).mono ?_; rintro e w1 ⟨rfl, rfl⟩))
    go_ret
    exact ⟨by rw [Hs.out]; rfl, ((Old.refl w).alloc _).alloc _⟩
end Go.Proofs.YtpifkinlaicliaaGreatDoor
/-
  TEXT, COMPARE: lists in order; texts by their elements, by their characters.
-/


namespace Go.Proofs.YtpifkinlaicliaaGreatDoor
open Go.RowKit
attribute [local go_sem] Old.refl Old.alloc Old.drew Old.setCell OldW.old

/-- two lists, by their first unlike ones -/
def lexL {α : Type} (f : α → α → Int) : List α → List α → Int
  | [], [] => 0
  | [], _ :: _ => -1
  | _ :: _, [] => 1
  | a :: x, b :: y => if f a b = 0 then lexL f x y else f a b
theorem lexL_hit {α : Type} {f : α → α → Int} {x y : List α} {k : Nat} {a b : α} (hx : x[k]? = some a) (hy : y[k]? = some b) (h : ¬ f a b = 0) : lexL f (x.drop k) (y.drop k) = f a b := by
  rw [List.drop_eq_getElem_cons (List.getElem?_eq_some_iff.1 hx).1, List.drop_eq_getElem_cons (List.getElem?_eq_some_iff.1 hy).1, (List.getElem?_eq_some_iff.1 hx).2, (List.getElem?_eq_some_iff.1 hy).2, lexL, if_neg h]
theorem lexL_skip {α : Type} {f : α → α → Int} {x y : List α} {k : Nat} {a b : α} (hx : x[k]? = some a) (hy : y[k]? = some b) (h : f a b = 0) : lexL f (x.drop k) (y.drop k) = lexL f (x.drop (k + 1)) (y.drop (k + 1)) := by
  rw [List.drop_eq_getElem_cons (List.getElem?_eq_some_iff.1 hx).1, List.drop_eq_getElem_cons (List.getElem?_eq_some_iff.1 hy).1, (List.getElem?_eq_some_iff.1 hx).2, (List.getElem?_eq_some_iff.1 hy).2, lexL, if_pos h]
theorem lexL_end {α : Type} {f : α → α → Int} {x y : List α} {k : Nat} (h : k = min x.length y.length) : lexL f (x.drop k) (y.drop k) = Lib.compareInt x.length y.length := by
  unfold Lib.compareInt
  rcases Nat.lt_trichotomy x.length y.length with h1 | h1 | h1
  · rw [if_pos (by omega), List.drop_eq_nil_of_le (by omega), List.drop_eq_getElem_cons (by omega)]; rfl
  · rw [if_neg (by omega), if_neg (by omega), List.drop_eq_nil_of_le (by omega), List.drop_eq_nil_of_le (by omega)]; rfl
  · subst h; rw [if_neg (by omega), if_pos (by omega), (show y.drop (min x.length y.length) = [] from List.drop_eq_nil_of_le (by omega)), List.drop_eq_getElem_cons (by omega)]; rfl
/-- what a record's cells say in every later world -/
theorem Recs.three {w : World} {b off i : Nat} {t : List El} (ht : ∀ j u, (elE.all t)[j]? = some u → ∀ W, Old w W → W.cell? ⟨b, off + j, none⟩ = some u) {x : El} (hx : t[i]? = some x) :
    ∀ V, Old w V → V.cell? ⟨b, off + i * 3, none⟩ = some (.int .i64 x.k) ∧ V.cell? ⟨b, off + i * 3 + 1, none⟩ = some (.int .i32 x.r) ∧ V.cell? ⟨b, off + i * 3 + 2, none⟩ = some (.string x.d) := fun V o => by
  have h0 := ht (i * 3 + 0) _ (Enc.all_at (c := elE) (j := 0) hx rfl) V o
  have h1 := ht (i * 3 + 1) _ (Enc.all_at (c := elE) (j := 1) hx rfl) V o
  have h2 := ht (i * 3 + 2) _ (Enc.all_at (c := elE) (j := 2) hx rfl) V o
  rw [← Nat.add_assoc] at h1 h2
  exact ⟨h0, h1, h2⟩
set_option maxRecDepth 100000 in
set_option maxHeartbeats 3200000 in
theorem byElements_any (a b : ByteArray) (w : World) (hT : Tabs w) (ha : a.size ≤ 4194304) (hb : b.size ≤ 4194304) :
    Calls Tryz.prog 48 #[.string a, .string b] w fun e w' => e = .returned (.int .i64 (lexL cmpEl (elsS a) (elsS b))) ∧ Old w w' := by
  have HA := Lib.hid (elements_any a w hT ha)
  have HB := Lib.hid (fun V (o : Old w V) => elements_any b V (hT.old o) hb)
  generalize elsS a = x at *
  generalize elsS b = y at *
  go_enter Tryz.func48, Tryz.ntmps48
  go_wp2_with fail
  refine HA.out.mono ?_
  rintro e w1 ⟨⟨v1, rfl, hv1⟩, ho1⟩
  go_wp2_with fail
  refine (HB.out _ ho1).mono ?_
  rintro e w2 ⟨⟨v2, rfl, hv2⟩, ho2⟩
  obtain ⟨a1, cap1, b1, off1, rfl, hc11, hc12, ha1, ht1⟩ := (hv1.recs.old ho2)
  obtain ⟨a2, cap2, b2, off2, rfl, hc21, hc22, ha2, ht2⟩ := hv2.recs
  have Ha1 := Lib.hid ha1
  have Ha2 := Lib.hid ha2
  have Ht1 := Lib.hid ht1
  have Ht2 := Lib.hid ht2
  clear ha1 ha2 ht1 ht2 hv1 hv2
  go_upto_region 2 with fail
  go_cut [17, 18] from 13 to 18 (fun n j wx => n = .int .i64 (min x.length y.length : Nat) ∧ j = .int .i64 (0 : Nat) ∧ w2 = wx)
  case' first =>
    go_wp2_with fail
    all_goals
      go_meet
      refine ⟨congrArg (Value.int .i64) ?_, rfl, rfl⟩
      omega
  obtain ⟨rfl, rfl, rfl⟩ := hcut
  have hmx : min x.length y.length ≤ x.length := Nat.min_le_left _ _
  have hmy : min x.length y.length ≤ y.length := Nat.min_le_right _ _
  have Hend := Lib.hid (lexL_end (f := cmpEl) (x := x) (y := y) rfl)
  generalize min x.length y.length = n at *
  go_wp2_with fail
  go_loopw [18] (fun j wr => ∃ k : Nat, k ≤ n ∧ j = .int .i64 k ∧ lexL cmpEl (x.drop k) (y.drop k) = lexL cmpEl x y ∧ Old w2 wr) (fun j _ => n - (intOf j).toNat)
  case atStart => exact ⟨0, Nat.zero_le _, rfl, rfl, Old.refl _⟩
  case round =>
    obtain ⟨k, hk, rfl, hat, ho⟩ := hrel
    have Hat := Lib.hid hat
    clear hat
    by_cases hlt : k < n
    · have hk1 : (k : Int) < n := by omega
      have hkx : (k : Int) < x.length := by omega
      have hky : (k : Int) < y.length := by omega
      have hkx' : k < x.length := by omega
      have hky' : k < y.length := by omega
      obtain rfl := Ha1.out (by omega)
      obtain rfl := Ha2.out (by omega)
      obtain ⟨p, hp⟩ : ∃ p, x[k]? = some p := ⟨_, List.getElem?_eq_getElem (by omega)⟩
      obtain ⟨q, hq⟩ : ∃ q, y[k]? = some q := ⟨_, List.getElem?_eq_getElem (by omega)⟩
      have K1 := Recs.three Ht1.out hp
      have K2 := Recs.three Ht2.out hq
      have k1 := fun V (o : Old wr V) => (K1 V (ho.trans o)).1
      have k2 := fun V (o : Old wr V) => (K1 V (ho.trans o)).2.1
      have k3 := fun V (o : Old wr V) => (K1 V (ho.trans o)).2.2
      have j1 := fun V (o : Old wr V) => (K2 V (ho.trans o)).1
      have j2 := fun V (o : Old wr V) => (K2 V (ho.trans o)).2.1
      have j3 := fun V (o : Old wr V) => (K2 V (ho.trans o)).2.2
      have Hc := Lib.hid (fun (W : OldW wr) => compareElements_any p q W.w')
      unfold elV at Hc
      have hsplit : (cmpEl p q = 0 ∧ lexL cmpEl (x.drop k) (y.drop k) = lexL cmpEl (x.drop (k + 1)) (y.drop (k + 1))) ∨ (¬ cmpEl p q = 0 ∧ lexL cmpEl (x.drop k) (y.drop k) = cmpEl p q) := by
        by_cases h0 : cmpEl p q = 0
        · exact .inl ⟨h0, lexL_skip hp hq h0⟩
        · exact .inr ⟨h0, lexL_hit hp hq h0⟩
      clear hp hq K1 K2
      generalize cmpEl p q = c at *
      go_upto_region 5 with fail
      refine wp_region_old (Old.refl _) (by kernel_rfl) (by kernel_rfl) ?_
      repeat (go_big_quiet_step (exact Calls.in_old (Hc.out _)))
      refine wpQuiet_nil ?_
      rintro ⟨wq, hq⟩
      dsimp only
      rcases hsplit with ⟨rfl, hs⟩ | ⟨hc, hs⟩
      · have Hs := Lib.hid hs
        clear hs
        go_wp2_with fail
        go_roundw
        case rel => exact ⟨k + 1, by omega, by go_num, by rw [← Hs.out]; exact Hat.out, ho.trans hq⟩
        case measure => simp [intOf]; omega
      · have Hs := Lib.hid hs
        have hcb : (c != 0) = true := by rw [bne_iff_ne]; exact hc
        clear hs hc
        go_wp2_with fail
        go_ret
        exact ⟨by rw [← Hat.out, Hs.out]; rfl, ((ho1.trans ho2).trans ho).trans hq⟩
    · obtain rfl : k = n := by omega
      have HC := Lib.hid (fun w => Tryz.cmp_Compare_int x.length y.length w)
      go_wp2_with (first | (go_at_call 84; refine (HC.out _).mono ?_; rintro e w1 ⟨rfl, rfl⟩))
      go_ret
      exact ⟨by rw [← Hat.out, Hend.out]; rfl, (ho1.trans ho2).trans ho⟩
end Go.Proofs.YtpifkinlaicliaaGreatDoor
