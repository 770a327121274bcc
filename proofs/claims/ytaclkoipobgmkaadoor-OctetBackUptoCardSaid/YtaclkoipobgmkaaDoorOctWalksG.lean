/-
  OCTET, WALKS G: bytes taken off the cursor.
-/
import Derived.Test.YtaclkoipobgmkaaDoorOctWalksF
import Derived.StillTailTactics
namespace Go.Proofs.YtaclkoipobgmkaaDoor
open Go.RowKit
attribute [local go_sem] Old.refl Old.alloc Old.drew Old.setCell OldW.old

/-- n bytes from place p on -/
def cutL (l : List Int) (p n : Nat) : List Int := (l.drop p).take n
theorem cutL_length {l : List Int} {p n : Nat} (h : p + n ≤ l.length) : (cutL l p n).length = n := by simp [cutL]; omega
theorem cutL_ix {l : List Int} {p n : Nat} (h : p + n ≤ l.length) {i : Nat} (hi : i < n) : ix (cutL l p n) i = ix l (p + i) := by
  have hi' : p + i < l.length := by omega
  simp [ix, cutL, List.getD, hi, List.getElem?_drop]
theorem Byt.cut {l : List Int} (hb : Byt l) {p n : Nat} (h : p + n ≤ l.length) : Byt (cutL l p n) := fun i hi => by
  rw [cutL_length h] at hi
  rw [cutL_ix h hi]; exact hb _ (by omega)
/-- what Take answers, where the cursor stands then, its error then -/
def takeC (l : List Int) (p : Nat) (e : Int) (n : Int) : List Int × Nat × Int :=
  if e = 0 then (if n < 0 then ([], p, 1) else if (l.length : Int) - p < n then ([], p, 30) else (cutL l p n.toNat, p + n.toNat, 0)) else ([], p, e)
theorem takeC_bad {l : List Int} {p : Nat} {e n : Int} (h : ¬ e = 0) : takeC l p e n = ([], p, e) := by unfold takeC; rw [if_neg h]
theorem takeC_range {l : List Int} {p : Nat} {n : Int} (h : n < 0) : takeC l p 0 n = ([], p, 1) := by unfold takeC; rw [if_pos rfl, if_pos h]
theorem takeC_torn {l : List Int} {p : Nat} {n : Int} (h0 : ¬ n < 0) (h : (l.length : Int) - p < n) : takeC l p 0 n = ([], p, 30) := by unfold takeC; rw [if_pos rfl, if_neg h0, if_pos h]
theorem takeC_ok {l : List Int} {p : Nat} {n : Nat} (h : ¬ (l.length : Int) - p < n) : takeC l p 0 n = (cutL l p n, p + n, 0) := by
  unfold takeC; rw [if_pos rfl, if_neg (by omega), if_neg h]; rfl
/-- bytes answered in new memory; the cursor c behind -/
def RetTake (c : Nat) (l : List Int) (w : World) (L : List Int) (p : Nat) (e : Int) (r : Ending) (w' : World) : Prop := ∃ v, r = .returned v ∧ OwnN .u8 5 w w' v L ∧ Cur w' c l p e ∧ OldBut c w w'
theorem RetTake.mk {c : Nat} {l : List Int} {w w' : World} {v : Value} {L L' : List Int} {p p' : Nat} {e e' : Int} (hn : L = L') (hp : p = p') (he : e = e') (hv : OwnN .u8 5 w w' v L) (hc : Cur w' c l p e) (ho : OldBut c w w') : RetTake c l w L' p' e' (.returned v) w' := by
  subst hn hp he; exact ⟨v, rfl, hv, hc, ho⟩
theorem Cur.lt {w : World} {c : Nat} {l : List Int} {p : Nat} {e : Int} (h : Cur w c l p e) : c < w.heap.size := World.block_lt_of_cell? w _ h.at1
theorem OwnN.copied {k : IntKind} {E : TypeId} {w0 w : World} {g m : Nat} {L0 L : List Int} (h : OwnN k E w0 w (.slice (some ⟨g, 0, none⟩) m m) L0) (hg : w0.heap.size ≤ g) (hL : L.length = m) (hm : m ≤ 9223372036854775807) :
    OwnN k E w0 (w.setRow g ((L0.map (Value.int k)).toArray.toList.take 0 ++ (L.map (Value.int k) ++ (L0.map (Value.int k)).toArray.toList.drop (0 + (L.map (Value.int k)).length))).toArray) (.slice (some ⟨g, 0, none⟩) m m) L := by
  obtain ⟨hraw, hlen⟩ := h.raw
  have e : ((L0.map (Value.int k)).toArray.toList.take 0 ++ (L.map (Value.int k) ++ (L0.map (Value.int k)).toArray.toList.drop (0 + (L.map (Value.int k)).length))) = L.map (Value.int k) := by
    rw [List.take_zero, List.nil_append, List.drop_eq_nil_of_le (by simp; omega), List.append_nil]
  rw [e]
  have := OwnN.of_raw (w0 := w0) (E := E) (l := L) (setRow_heap w g _ (L.map (Value.int k)).toArray _ _ hraw) hg (by omega)
  rwa [hL] at this
theorem cut_src {w : World} {b off : Nat} {l : List Int} (ht0 : ∀ i, i < l.length → ∀ W, Old w W → W.cell? ⟨b, off + i, none⟩ = some (.int .u8 (ix l i))) {p m : Nat} (h : p + m ≤ l.length) {W : World} (hW : Old w W) :
    ∀ j v, ((cutL l p m).map (Value.int .u8))[j]? = some v → W.cell? ((⟨b, off + p, none⟩ : Addr).add j) = some v := by
  intro j v hv
  have hj : j < m := by have := (List.getElem?_eq_some_iff.1 hv).1; simpa [cutL_length h] using this
  rw [Addr.add_lit, Nat.add_assoc, ht0 (p + j) (by omega) W hW, ← hv, ← cutL_ix h hj]
  have hj' : j < (cutL l p m).length := by rw [cutL_length h]; exact hj
  simp [ix, List.getD, hj']
theorem wpList_copy_fresh {P : Program} {w0 w : World} {ops : Array Oper} {rest : List Oper} {o : Oper} {a : Act} {Q : Exit → Act → World → Prop} {k : IntKind} {E : TypeId} (hgd : o.guard = none) (d s : Operand) (dT sT : TypeId)
    (ho : o.op = .call { callee := .builtin .copy, args := #[d, s], argTypes := #[dT, sT] }) (elem : TypeId) (hu : P.underlying dT = some (.slice elem)) (hsz : (P.info? elem).map (·.size) = some 1)
    (g m : Nat) (hd : a.eval d = .slice (some ⟨g, 0, none⟩) m m) (L0 : List Int) (hown : OwnN k E w0 w (.slice (some ⟨g, 0, none⟩) m m) L0) (hg : w0.heap.size ≤ g)
    (ad : Addr) (sLen sCap : Nat) (hs : a.eval s = .slice (some ad) sLen sCap) (L : List Int) (hL : L.length = m) (hmin : m ≤ sLen) (hm : m ≤ 9223372036854775807)
    (hsrc : ∀ j v, (L.map (Value.int k))[j]? = some v → w.cell? (ad.add j) = some v) (hold : Old w0 w)
    (hK : ∀ w', OwnN k E w0 w' (.slice (some ⟨g, 0, none⟩) m m) L → Old w0 w' → wpList P ops Q rest (a.put o.dst (goInt m)) w') : wpList P ops Q (o :: rest) a w := by
  have hlen := hown.raw.2
  refine wpList_copy_own hgd d s dT sT ho elem hu hsz g 0 m m ad sLen sCap hd hs _ _ hown.raw.1 (L.map (.int k)) (by rw [List.length_map, hL]; exact (Nat.min_eq_right hmin).symm) hsrc (by simp; omega) (nums_one _) ?_
  rw [List.length_map, hL]
  refine hK _ ?_ (below_setRow hold hg _)
  have := hown.copied (L := L) hg hL hm
  rwa [List.length_map, hL] at this
set_option maxHeartbeats 800000 in
theorem Take_any {w : World} {c : Nat} {l : List Int} {p : Nat} {e : Int} (h : Cur w c l p e) (hz : l.length ≤ 140737488355328) (n : Int) (hn0 : -9223372036854775808 ≤ n) (hn1 : n ≤ 9223372036854775807) :
    Calls Tryd.prog 39 #[.pointer (some ⟨c, 0, none⟩), .int .i64 n] w (RetTake c l w (takeC l p e n).1 (takeC l p e n).2.1 (takeC l p e n).2.2) := by
  have Cf := Lib.hid (fine_any h)
  have Hc := Lib.hid h
  have hle := h.le
  by_cases h0 : e = 0
  · subst h0
    have Cl := Lib.hid (Left_any h (by omega))
    by_cases hneg : n < 0
    · have Hu := Lib.hid (takeC_range (l := l) (p := p) hneg)
      clear h
      go_enter Tryd.func39, Tryd.ntmps39
      go_wp2_with (first | (go_at_call 40; refine Cf.out.mono ?_; rintro r w1 ⟨rfl, rfl⟩) | (go_at_call 42; refine (Fail_any Hc.out).mono ?_; rintro r w3 ⟨rfl, hc3, ho3⟩))
      go_ret
      rw [failE_zero] at hc3
      exact RetTake.mk (by rw [Hu.out]) (by rw [Hu.out]) (by rw [Hu.out]) (OwnN.nil _ _ _) hc3 ho3
    · by_cases htorn : (l.length : Int) - p < n
      · have Hu := Lib.hid (takeC_torn hneg htorn)
        have hd : decide ((l.length : Int) - p < n) = true := by simpa using htorn
        clear h
        go_enter Tryd.func39, Tryd.ntmps39
        go_wp2_with (first | (go_at_call 40; refine Cf.out.mono ?_; rintro r w1 ⟨rfl, rfl⟩) | (go_at_call 36; refine Cl.out.mono ?_; rintro r w2 ⟨rfl, ho⟩) | (go_at_call 42; refine (Fail_any (Hc.out.old ho)).mono ?_; rintro r w3 ⟨rfl, hc3, ho3⟩))
        all_goals first
          | (exfalso; omega)
          | (go_ret
             rw [failE_zero] at hc3
             exact RetTake.mk (by rw [Hu.out]) (by rw [Hu.out]) (by rw [Hu.out]) (OwnN.nil _ _ _) hc3 ((OldBut.of_old ho).trans ho3))
      · obtain ⟨m, rfl⟩ := Int.eq_ofNat_of_zero_le (show 0 ≤ n by omega)
        have Hu := Lib.hid (takeC_ok htorn)
        have hd : decide ((l.length : Int) - p < m) = false := by simpa using htorn
        have hpm : p + m ≤ l.length := by omega
        by_cases hm : m = 0
        · have hm0 : ((m : Int) == 0) = true := by rw [beq_iff_eq]; omega
          have Hm := Lib.hid hm
          clear h hm
          go_enter Tryd.func39, Tryd.ntmps39
          go_wp2_with (first | (go_at_call 40; refine Cf.out.mono ?_; rintro r w1 ⟨rfl, rfl⟩) | (go_at_call 36; refine Cl.out.mono ?_; rintro r w2 ⟨rfl, ho⟩))
          all_goals first
            | (exfalso; omega)
            | (go_ret
               exact RetTake.mk (by rw [Hu.out, Hm.out]; rfl) (by rw [Hu.out, Hm.out]; rfl) (by rw [Hu.out]) (OwnN.nil _ _ _) (Hc.out.old ho) (OldBut.of_old ho))
        · have hm0 : ((m : Int) == 0) = false := by rw [beq_eq_false_iff_ne]; omega
          have hbyte : (Tryd.prog.info? 5).map (·.size) = some 1 := by kernel_rfl
          have h1 := later h.at1
          have hf1 := h.fzs 1
          obtain ⟨a, cap, hc0, hr, hne⟩ := h.row
          obtain ⟨_, _, b, off, eq, hcap1, hcap2, ha, ht0⟩ := hr
          obtain ⟨rfl, _, rfl⟩ := Value.slice.inj eq
          obtain rfl := ha (by omega)
          have h0' := later hc0
          have hclt := h.lt
          have Ht := Lib.hid ht0
          have hcp : ¬ cap = p := by omega
          clear h eq hc0 ha ht0 hne
          go_enter Tryd.func39, Tryd.ntmps39
          go_wp2_with (first
            | (go_at_call 40; refine Cf.out.mono ?_; rintro r w1 ⟨rfl, rfl⟩)
            | (go_at_call 36; refine Cl.out.mono ?_; rintro r w2 ⟨rfl, ho⟩)
            | (at_make; refine wpList_make_nums (k := .u8) (w0 := w) rfl _ _ 22 rfl 5 Tryd.underlying22 infoByte m rfl rfl (by omega) (by omega) ho ?_; intro w3 hown ho3 hs3; have ho4 := ho.trans ho3))
          all_goals first
            | (exfalso; omega)
            | skip
          refine wp_region_still_tail 10 (by kernel_rfl) (by kernel_rfl) ?_
          simp only [List.take_succ_cons, List.take_zero, List.drop_succ_cons, List.drop_zero]
          repeat still_step
          refine wpStill_nil ?_
          refine wpList_copy_fresh (w0 := w) (k := .u8) (E := 5) rfl (.tmp 27) (.tmp 36) 22 22 rfl 5 Tryd.underlying22 hbyte w2.heap.size m rfl _ hown.drew ho.size ⟨b, off + p, none⟩ (l.length - p) (cap - p) rfl (cutL l p m) (cutL_length hpm) (by omega) (by omega)
            (cut_src Ht.out hpm ho4.drew) ho4.drew ?_
          intro w5 hown2 ho6
          have hpm0 : 0 ≤ (p : Int) + m := by omega
          have hpm1 : (p : Int) + m ≤ 140737488355328 := by omega
          go_wp2_with fail
          all_goals first
            | (exfalso; omega)
            | skip
          go_ret
          have hne : (⟨w2.heap.size, 0, none⟩ : Addr).block ≠ c := by have := ho.size; show w2.heap.size ≠ c; omega
          exact RetTake.mk (by rw [Hu.out]) (by rw [Hu.out]) (by rw [Hu.out]) (hown2.setCell_other _ (fun x hx => by cases hx; exact hne)) ((Hc.out.old ho6).setAt hpm) ((OldBut.of_old ho6).setCell _ _)
  · have hb : (e == 0) = false := by rw [beq_eq_false_iff_ne]; exact h0
    have Hu := Lib.hid (takeC_bad (l := l) (p := p) (n := n) h0)
    clear h0 h
    go_enter Tryd.func39, Tryd.ntmps39
    go_wp2_with (go_at_call 40; refine Cf.out.mono ?_; rintro r w1 ⟨rfl, rfl⟩)
    go_ret
    exact RetTake.mk (by rw [Hu.out]) (by rw [Hu.out]) (by rw [Hu.out]) (OwnN.nil _ _ _) Hc.out (OldBut.refl c w)
end Go.Proofs.YtaclkoipobgmkaaDoor
