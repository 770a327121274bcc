/-
  A PIECE's REFERENCE: the program's refer; the document's found.
-/
import Derived.Test.YtkaoipegbjmlnaaDoorZRefsP
import Derived.Test.YtkaoipegbjmlnaaDoorZMapsT
namespace Go.Proofs.YtkaoipegbjmlnaaDoor
open Go.RowKit
attribute [local go_sem] Old.refl Old.alloc Old.drew Old.setCell OldW.old

theorem zeroInt : ∀ w, (zeroValue 3).run Tryd.prog w = .ok (.int .i64 0) w := fun w => by kernel_rfl
def rfC (x : Rfr) : List Value := [.int .i64 x.f, .int .i64 x.t, .int .i64 x.n, .string x.s, .int .i64 x.l, .int .i64 x.c]
def inC (p : Pc) : Array Value := #[.int .i64 p.kind, .string ⟨#[]⟩, .string p.name, .int .i64 p.line, .int .i64 p.col]
/-- what refer says -/
def judged : Except Int Nat → Pc → Rfr × Int
  | .error c, _ => (⟨0, 0, 0, ⟨#[]⟩, 0, 0⟩, c)
  | .ok k, p => (⟨0, k, noteI p, p.name, p.line, p.col⟩, 0)
theorem Recs.nm {w : World} {a : Option Addr} {n cap : Nat} {t : List Nm} (h : Recs nmE w (.slice a n cap) t) : ∃ b off, (0 < t.length → a = some ⟨b, off, none⟩) ∧ ∀ (i : Nat) (x : Nm), t[i]? = some x →
    ∀ V, Old w V → V.cell? ⟨b, off + i * 6, none⟩ = some (.string x.name) ∧ V.cell? ⟨b, off + i * 6 + 1, none⟩ = some (.string x.norm) ∧ V.cell? ⟨b, off + i * 6 + 2, none⟩ = some (.int .i64 x.src) ∧ V.cell? ⟨b, off + i * 6 + 3, none⟩ = some (.int .i64 x.at') ∧ V.cell? ⟨b, off + i * 6 + 4, none⟩ = some (.int .i64 x.kind) ∧ V.cell? ⟨b, off + i * 6 + 5, none⟩ = some (.int .i64 x.line) := by
  obtain ⟨a', cap', b, off, e, _, _, h3, ht⟩ := h
  obtain ⟨rfl, _, rfl⟩ := Value.slice.inj e
  refine ⟨b, off, h3, fun i x hx V o => ?_⟩
  have g0 := ht (i * 6 + 0) _ (Enc.all_at (c := nmE) (j := 0) hx rfl) V o
  have g1 := ht (i * 6 + 1) _ (Enc.all_at (c := nmE) (j := 1) hx rfl) V o
  have g2 := ht (i * 6 + 2) _ (Enc.all_at (c := nmE) (j := 2) hx rfl) V o
  have g3 := ht (i * 6 + 3) _ (Enc.all_at (c := nmE) (j := 3) hx rfl) V o
  have g4 := ht (i * 6 + 4) _ (Enc.all_at (c := nmE) (j := 4) hx rfl) V o
  have g5 := ht (i * 6 + 5) _ (Enc.all_at (c := nmE) (j := 5) hx rfl) V o
  rw [← Nat.add_assoc] at g1 g2 g3 g4 g5
  exact ⟨g0, g1, g2, g3, g4, g5⟩
theorem idx_lt {dir : List Nm} {n : ByteArray} {k : Nat} (h : idx dir n = some k) : k < dir.length := by
  obtain ⟨d, hd, _⟩ := idx_some h
  exact (List.getElem?_eq_some_iff.1 hd).1
theorem judge_bad {dir : List Nm} {p : Pc} (h : ¬ (normR p.name).2 = 0) : judge dir p = .error 80 := by unfold judge; rw [if_neg h]
theorem judge_none {dir : List Nm} {p : Pc} (h0 : (normR p.name).2 = 0) (h : idx dir (normR p.name).1 = none) : judge dir p = .error 80 := by unfold judge; rw [if_pos h0, h]
theorem judge_kind {dir : List Nm} {p : Pc} {k : Nat} {d : Nm} (h0 : (normR p.name).2 = 0) (h : idx dir (normR p.name).1 = some k) (hd : dir[k]? = some d) : judge dir p = if d.kind = noteI p then .ok k else .error 81 := by
  unfold judge
  rw [if_pos h0, h]
  dsimp only
  rw [hd]
  show (if some d.kind = some (noteI p) then _ else _) = _
  by_cases e : d.kind = noteI p
  · rw [if_pos e, if_pos (by rw [e])]
  · rw [if_neg e, if_neg (fun h => e (Option.some.inj h))]
set_option maxRecDepth 100000 in
set_option maxHeartbeats 1600000 in
theorem refer_any (mb nn : Nat) (dir : List Nm) (vd : Value) (p : Pc) (w : World) (hT : Tabs w) (hm : MapTO Tryd.prog 9 3 w mb nn (idx dir)) (hd : Recs nmE w vd dir) (hn : dir.length ≤ 4611686018427387904) :
    Calls Tryd.prog 12 #[.map (some mb), vd, .agg (inC p)] w fun e w' => e = .returned (.tuple #[.agg (rfC (judged (judge dir p) p).1).toArray, .int .i64 (judged (judge dir p) p).2]) ∧ Old w w' := by
  have hN := fun V (o : Old w V) => Norm_any p.name V (hT.old o)
  have hsz := normR_size p.name
  have J0 := Lib.hid (fun h => judge_bad (dir := dir) (p := p) h)
  have J1 := Lib.hid (fun h0 h => judge_none (dir := dir) (p := p) h0 h)
  have J2 := Lib.hid (fun k d h0 h hd => judge_kind (dir := dir) (p := p) (k := k) (d := d) h0 h hd)
  obtain ⟨ad, cd, rfl, hc1, hc2⟩ := hd.form
  obtain ⟨bd, od, had, hatd⟩ := hd.nm
  have Had := Lib.hid had
  have Hatd := Lib.hid hatd
  have HM := Lib.hid hm
  have HN := Lib.hid hN
  clear hm hd had hatd hN hT
  generalize judge dir p = J at *
  generalize hnr : normR p.name = nr at *
  obtain ⟨nm, ne⟩ := nr
  clear hnr
  unfold inC
  by_cases h0 : ne = 0
  · subst h0
    cases hix : idx dir nm with
    | none =>
      have hj : J = .error 80 := J1.out rfl hix
      have Hix := Lib.hid hix
      subst hj
      clear J0 J1 J2 hix
      go_enter Tryd.func12, Tryd.ntmps12
      go_wp2_with fail
      refine (HN.out _ (((Old.refl w).alloc _).alloc _)).mono ?_
      rintro e w1 ⟨rfl, o1⟩
      have o2 := ((((Old.refl w).alloc _).alloc _)).trans o1
      have hlt : w.heap.size + 1 < w1.heap.size := by have := o1.size; simp [go_sem] at this; omega
      have c0 := o1.cell (p := ⟨w.heap.size + 1, 0, none⟩) (by simp [go_sem]; rfl)
      have c1 := o1.cell (p := ⟨w.heap.size + 1, 1, none⟩) (by simp [go_sem]; rfl)
      have c2 := o1.cell (p := ⟨w.heap.size + 1, 2, none⟩) (by simp [go_sem]; rfl)
      have c3 := o1.cell (p := ⟨w.heap.size + 1, 3, none⟩) (by simp [go_sem]; rfl)
      have c4 := o1.cell (p := ⟨w.heap.size + 1, 4, none⟩) (by simp [go_sem]; rfl)
      have c5 := o1.cell (p := ⟨w.heap.size + 1, 5, none⟩) (by simp [go_sem]; rfl)
      have hf : ∀ j, w1.frozen? ⟨w.heap.size + 1, j, none⟩ = false := fun j => by
        rw [frozen_old o1 (by simp [go_sem])]
        simp [go_sem]
      go_wp2_with (refine wpList_lookup_mto_ok rfl _ _ _ rfl _ _ Tryd.underlying9 Tryd.underlying47 Tryd.underlying3 zeroInt mb _ (idx dir) rfl (HM.out.old o2) nm rfl (by omega) none Hix.out ?_)
      refine bodyPost_ret (v := .tuple #[.agg (rfC (judged (.error 80) p).1).toArray, .int .i64 (judged (.error 80) p).2]) (by simp [results, Tryd.results12, go_sem, c0, c1, c2, c3, c4, c5, rfC, judged]) rfl ⟨rfl, ?_⟩
      exact ((((((o2.setCell (Nat.le_succ _) _).setCell (Nat.le_succ _) _).setCell (Nat.le_succ _) _).setCell (Nat.le_succ _) _).setCell (Nat.le_succ _) _).setCell (Nat.le_succ _) _)
    | some k =>
      obtain ⟨d, hd, _⟩ := idx_some hix
      have hk := idx_lt hix
      have hj := J2.out k d rfl hix hd
      have Hix := Lib.hid hix
      obtain rfl := Had.out (by omega)
      have hd4 : ∀ V, Old w V → V.cell? ⟨bd, od + k * 6 + 4, none⟩ = some (.int .i64 d.kind) := fun V o => (Hatd.out k d hd V o).2.2.2.2.1
      have hki : (k : Int) < dir.length := by omega
      clear J0 J1 J2 hix hd
      by_cases h4 : p.kind = 4
      · have hb4 : (p.kind == 4) = true := by rw [beq_iff_eq]; exact h4
        have hnt : noteI p = 1 := by unfold noteI; rw [if_pos h4]
        clear h4
        by_cases hkd : d.kind = 1
        · have hbk : (d.kind != 1) = false := by rw [hkd]; rfl
          have hj2 : J = .ok k := by rw [hj, hnt, if_pos hkd]
          subst hj2
          clear hj hkd
          go_enter Tryd.func12, Tryd.ntmps12
          go_wp2_with fail
          refine (HN.out _ (((Old.refl w).alloc _).alloc _)).mono ?_
          rintro e w1 ⟨rfl, o1⟩
          have o2 := ((((Old.refl w).alloc _).alloc _)).trans o1
          have hlt : w.heap.size + 1 < w1.heap.size := by have := o1.size; simp [go_sem] at this; omega
          have c0 := later (o1.cell (p := ⟨w.heap.size + 1, 0, none⟩) (v := .int .i64 0) (by simp [go_sem]))
          have c1 := later (o1.cell (p := ⟨w.heap.size + 1, 1, none⟩) (v := .int .i64 0) (by simp [go_sem]))
          have c2 := later (o1.cell (p := ⟨w.heap.size + 1, 2, none⟩) (v := .int .i64 0) (by simp [go_sem]))
          have c3 := later (o1.cell (p := ⟨w.heap.size + 1, 3, none⟩) (v := .string ⟨#[]⟩) (by simp [go_sem]))
          have c4 := later (o1.cell (p := ⟨w.heap.size + 1, 4, none⟩) (v := .int .i64 0) (by simp [go_sem]))
          have c5 := later (o1.cell (p := ⟨w.heap.size + 1, 5, none⟩) (v := .int .i64 0) (by simp [go_sem]))
          have hf : ∀ j V, Old w1 V → V.frozen? ⟨w.heap.size + 1, j, none⟩ = false := fun j V o => by
            rw [frozen_old (o1.trans o) (by simp [go_sem])]
            simp [go_sem]
          have p0 := later (o1.cell (p := ⟨w.heap.size, 0, none⟩) (v := .int .i64 p.kind) (by simp [go_sem]))
          have p2 := later (o1.cell (p := ⟨w.heap.size, 2, none⟩) (v := .string p.name) (by simp [go_sem]))
          have p3 := later (o1.cell (p := ⟨w.heap.size, 3, none⟩) (v := .int .i64 p.line) (by simp [go_sem]))
          have p4 := later (o1.cell (p := ⟨w.heap.size, 4, none⟩) (v := .int .i64 p.col) (by simp [go_sem]))
          have dk : ∀ V, Old w1 V → V.cell? ⟨bd, od + k * 6 + 4, none⟩ = some (.int .i64 d.kind) := fun V o => hd4 V (o2.trans o)
          go_upto_region 9 with (refine wpList_lookup_mto_ok rfl _ _ _ rfl _ _ Tryd.underlying9 Tryd.underlying47 Tryd.underlying3 zeroInt mb _ (idx dir) rfl (HM.out.old o2) nm rfl (by omega) (some k) Hix.out ?_; rw [show optN (some k) = (k : Int) from rfl])
          have q0 := later (w := w1.alloc (.cells #[.int .i64 0, .int .i64 k, .int .i64 1, .string p.name, .int .i64 p.line, .int .i64 p.col] 43)) (p := ⟨w1.heap.size, 0, none⟩) (v := .int .i64 0) (by simp [go_sem])
          have q1 := later (w := w1.alloc (.cells #[.int .i64 0, .int .i64 k, .int .i64 1, .string p.name, .int .i64 p.line, .int .i64 p.col] 43)) (p := ⟨w1.heap.size, 1, none⟩) (v := .int .i64 (k : Int)) (by simp [go_sem])
          have q2 := later (w := w1.alloc (.cells #[.int .i64 0, .int .i64 k, .int .i64 1, .string p.name, .int .i64 p.line, .int .i64 p.col] 43)) (p := ⟨w1.heap.size, 2, none⟩) (v := .int .i64 1) (by simp [go_sem])
          have q3 := later (w := w1.alloc (.cells #[.int .i64 0, .int .i64 k, .int .i64 1, .string p.name, .int .i64 p.line, .int .i64 p.col] 43)) (p := ⟨w1.heap.size, 3, none⟩) (v := .string p.name) (by simp [go_sem])
          have q4 := later (w := w1.alloc (.cells #[.int .i64 0, .int .i64 k, .int .i64 1, .string p.name, .int .i64 p.line, .int .i64 p.col] 43)) (p := ⟨w1.heap.size, 4, none⟩) (v := .int .i64 p.line) (by simp [go_sem])
          have q5 := later (w := w1.alloc (.cells #[.int .i64 0, .int .i64 k, .int .i64 1, .string p.name, .int .i64 p.line, .int .i64 p.col] 43)) (p := ⟨w1.heap.size, 5, none⟩) (v := .int .i64 p.col) (by simp [go_sem])
          have oz : Old w1 (w1.alloc (.cells #[.int .i64 0, .int .i64 k, .int .i64 1, .string p.name, .int .i64 p.line, .int .i64 p.col] 43)) := (Old.refl w1).alloc _
          have z0 := c0 _ oz
          have z1 := c1 _ oz
          have z2 := c2 _ oz
          have z3 := c3 _ oz
          have z4 := c4 _ oz
          have z5 := c5 _ oz
          have zf := fun j => hf j _ oz
          have zd := dk _ oz
          have o3 := o2.trans oz
          generalize w1.alloc (.cells #[.int .i64 0, .int .i64 k, .int .i64 1, .string p.name, .int .i64 p.line, .int .i64 p.col] 43) = w2 at *
          clear c0 c1 c2 c3 c4 c5 hf dk p0 p2 p3 p4 oz
          go_wp2_with fail
          refine bodyPost_ret (v := .tuple #[.agg (rfC (judged (.ok k) p).1).toArray, .int .i64 (judged (.ok k) p).2]) (by simp [results, Tryd.results12, go_sem, z0, z1, z2, z3, z4, z5, rfC, judged, hnt]) rfl ⟨rfl, ?_⟩
          exact ((((((o3.setCell (Nat.le_succ _) _).setCell (Nat.le_succ _) _).setCell (Nat.le_succ _) _).setCell (Nat.le_succ _) _).setCell (Nat.le_succ _) _).setCell (Nat.le_succ _) _)
        · have hbk : (d.kind != 1) = true := by rw [bne_iff_ne]; exact hkd
          have hj2 : J = .error 81 := by rw [hj, hnt, if_neg hkd]
          subst hj2
          clear hj hkd
          go_enter Tryd.func12, Tryd.ntmps12
          go_wp2_with fail
          refine (HN.out _ (((Old.refl w).alloc _).alloc _)).mono ?_
          rintro e w1 ⟨rfl, o1⟩
          have o2 := ((((Old.refl w).alloc _).alloc _)).trans o1
          have hlt : w.heap.size + 1 < w1.heap.size := by have := o1.size; simp [go_sem] at this; omega
          have c0 := later (o1.cell (p := ⟨w.heap.size + 1, 0, none⟩) (v := .int .i64 0) (by simp [go_sem]))
          have c1 := later (o1.cell (p := ⟨w.heap.size + 1, 1, none⟩) (v := .int .i64 0) (by simp [go_sem]))
          have c2 := later (o1.cell (p := ⟨w.heap.size + 1, 2, none⟩) (v := .int .i64 0) (by simp [go_sem]))
          have c3 := later (o1.cell (p := ⟨w.heap.size + 1, 3, none⟩) (v := .string ⟨#[]⟩) (by simp [go_sem]))
          have c4 := later (o1.cell (p := ⟨w.heap.size + 1, 4, none⟩) (v := .int .i64 0) (by simp [go_sem]))
          have c5 := later (o1.cell (p := ⟨w.heap.size + 1, 5, none⟩) (v := .int .i64 0) (by simp [go_sem]))
          have hf : ∀ j V, Old w1 V → V.frozen? ⟨w.heap.size + 1, j, none⟩ = false := fun j V o => by
            rw [frozen_old (o1.trans o) (by simp [go_sem])]
            simp [go_sem]
          have p0 := later (o1.cell (p := ⟨w.heap.size, 0, none⟩) (v := .int .i64 p.kind) (by simp [go_sem]))
          have p2 := later (o1.cell (p := ⟨w.heap.size, 2, none⟩) (v := .string p.name) (by simp [go_sem]))
          have p3 := later (o1.cell (p := ⟨w.heap.size, 3, none⟩) (v := .int .i64 p.line) (by simp [go_sem]))
          have p4 := later (o1.cell (p := ⟨w.heap.size, 4, none⟩) (v := .int .i64 p.col) (by simp [go_sem]))
          have dk : ∀ V, Old w1 V → V.cell? ⟨bd, od + k * 6 + 4, none⟩ = some (.int .i64 d.kind) := fun V o => hd4 V (o2.trans o)
          go_upto_region 9 with (refine wpList_lookup_mto_ok rfl _ _ _ rfl _ _ Tryd.underlying9 Tryd.underlying47 Tryd.underlying3 zeroInt mb _ (idx dir) rfl (HM.out.old o2) nm rfl (by omega) (some k) Hix.out ?_; rw [show optN (some k) = (k : Int) from rfl])
          have q0 := later (w := w1.alloc (.cells #[.int .i64 0, .int .i64 k, .int .i64 1, .string p.name, .int .i64 p.line, .int .i64 p.col] 43)) (p := ⟨w1.heap.size, 0, none⟩) (v := .int .i64 0) (by simp [go_sem])
          have q1 := later (w := w1.alloc (.cells #[.int .i64 0, .int .i64 k, .int .i64 1, .string p.name, .int .i64 p.line, .int .i64 p.col] 43)) (p := ⟨w1.heap.size, 1, none⟩) (v := .int .i64 (k : Int)) (by simp [go_sem])
          have q2 := later (w := w1.alloc (.cells #[.int .i64 0, .int .i64 k, .int .i64 1, .string p.name, .int .i64 p.line, .int .i64 p.col] 43)) (p := ⟨w1.heap.size, 2, none⟩) (v := .int .i64 1) (by simp [go_sem])
          have q3 := later (w := w1.alloc (.cells #[.int .i64 0, .int .i64 k, .int .i64 1, .string p.name, .int .i64 p.line, .int .i64 p.col] 43)) (p := ⟨w1.heap.size, 3, none⟩) (v := .string p.name) (by simp [go_sem])
          have q4 := later (w := w1.alloc (.cells #[.int .i64 0, .int .i64 k, .int .i64 1, .string p.name, .int .i64 p.line, .int .i64 p.col] 43)) (p := ⟨w1.heap.size, 4, none⟩) (v := .int .i64 p.line) (by simp [go_sem])
          have q5 := later (w := w1.alloc (.cells #[.int .i64 0, .int .i64 k, .int .i64 1, .string p.name, .int .i64 p.line, .int .i64 p.col] 43)) (p := ⟨w1.heap.size, 5, none⟩) (v := .int .i64 p.col) (by simp [go_sem])
          have oz : Old w1 (w1.alloc (.cells #[.int .i64 0, .int .i64 k, .int .i64 1, .string p.name, .int .i64 p.line, .int .i64 p.col] 43)) := (Old.refl w1).alloc _
          have z0 := c0 _ oz
          have z1 := c1 _ oz
          have z2 := c2 _ oz
          have z3 := c3 _ oz
          have z4 := c4 _ oz
          have z5 := c5 _ oz
          have zf := fun j => hf j _ oz
          have zd := dk _ oz
          have o3 := o2.trans oz
          generalize w1.alloc (.cells #[.int .i64 0, .int .i64 k, .int .i64 1, .string p.name, .int .i64 p.line, .int .i64 p.col] 43) = w2 at *
          clear c0 c1 c2 c3 c4 c5 hf dk p0 p2 p3 p4 oz
          go_wp2_with fail
          refine bodyPost_ret (v := .tuple #[.agg (rfC (judged (.error 81) p).1).toArray, .int .i64 (judged (.error 81) p).2]) (by simp [results, Tryd.results12, go_sem, z0, z1, z2, z3, z4, z5, rfC, judged]) rfl ⟨rfl, ?_⟩
          exact ((((((o3.setCell (Nat.le_succ _) _).setCell (Nat.le_succ _) _).setCell (Nat.le_succ _) _).setCell (Nat.le_succ _) _).setCell (Nat.le_succ _) _).setCell (Nat.le_succ _) _)
      · have hb4 : (p.kind == 4) = false := by rw [beq_eq_false_iff_ne]; exact h4
        have hnt : noteI p = 0 := by unfold noteI; rw [if_neg h4]
        clear h4
        by_cases hkd : d.kind = 0
        · have hbk : (d.kind != 0) = false := by rw [hkd]; rfl
          have hj2 : J = .ok k := by rw [hj, hnt, if_pos hkd]
          subst hj2
          clear hj hkd
          go_enter Tryd.func12, Tryd.ntmps12
          go_wp2_with fail
          refine (HN.out _ (((Old.refl w).alloc _).alloc _)).mono ?_
          rintro e w1 ⟨rfl, o1⟩
          have o2 := ((((Old.refl w).alloc _).alloc _)).trans o1
          have hlt : w.heap.size + 1 < w1.heap.size := by have := o1.size; simp [go_sem] at this; omega
          have c0 := later (o1.cell (p := ⟨w.heap.size + 1, 0, none⟩) (v := .int .i64 0) (by simp [go_sem]))
          have c1 := later (o1.cell (p := ⟨w.heap.size + 1, 1, none⟩) (v := .int .i64 0) (by simp [go_sem]))
          have c2 := later (o1.cell (p := ⟨w.heap.size + 1, 2, none⟩) (v := .int .i64 0) (by simp [go_sem]))
          have c3 := later (o1.cell (p := ⟨w.heap.size + 1, 3, none⟩) (v := .string ⟨#[]⟩) (by simp [go_sem]))
          have c4 := later (o1.cell (p := ⟨w.heap.size + 1, 4, none⟩) (v := .int .i64 0) (by simp [go_sem]))
          have c5 := later (o1.cell (p := ⟨w.heap.size + 1, 5, none⟩) (v := .int .i64 0) (by simp [go_sem]))
          have hf : ∀ j V, Old w1 V → V.frozen? ⟨w.heap.size + 1, j, none⟩ = false := fun j V o => by
            rw [frozen_old (o1.trans o) (by simp [go_sem])]
            simp [go_sem]
          have p0 := later (o1.cell (p := ⟨w.heap.size, 0, none⟩) (v := .int .i64 p.kind) (by simp [go_sem]))
          have p2 := later (o1.cell (p := ⟨w.heap.size, 2, none⟩) (v := .string p.name) (by simp [go_sem]))
          have p3 := later (o1.cell (p := ⟨w.heap.size, 3, none⟩) (v := .int .i64 p.line) (by simp [go_sem]))
          have p4 := later (o1.cell (p := ⟨w.heap.size, 4, none⟩) (v := .int .i64 p.col) (by simp [go_sem]))
          have dk : ∀ V, Old w1 V → V.cell? ⟨bd, od + k * 6 + 4, none⟩ = some (.int .i64 d.kind) := fun V o => hd4 V (o2.trans o)
          go_upto_region 9 with (refine wpList_lookup_mto_ok rfl _ _ _ rfl _ _ Tryd.underlying9 Tryd.underlying47 Tryd.underlying3 zeroInt mb _ (idx dir) rfl (HM.out.old o2) nm rfl (by omega) (some k) Hix.out ?_; rw [show optN (some k) = (k : Int) from rfl])
          have q0 := later (w := w1.alloc (.cells #[.int .i64 0, .int .i64 k, .int .i64 0, .string p.name, .int .i64 p.line, .int .i64 p.col] 43)) (p := ⟨w1.heap.size, 0, none⟩) (v := .int .i64 0) (by simp [go_sem])
          have q1 := later (w := w1.alloc (.cells #[.int .i64 0, .int .i64 k, .int .i64 0, .string p.name, .int .i64 p.line, .int .i64 p.col] 43)) (p := ⟨w1.heap.size, 1, none⟩) (v := .int .i64 (k : Int)) (by simp [go_sem])
          have q2 := later (w := w1.alloc (.cells #[.int .i64 0, .int .i64 k, .int .i64 0, .string p.name, .int .i64 p.line, .int .i64 p.col] 43)) (p := ⟨w1.heap.size, 2, none⟩) (v := .int .i64 0) (by simp [go_sem])
          have q3 := later (w := w1.alloc (.cells #[.int .i64 0, .int .i64 k, .int .i64 0, .string p.name, .int .i64 p.line, .int .i64 p.col] 43)) (p := ⟨w1.heap.size, 3, none⟩) (v := .string p.name) (by simp [go_sem])
          have q4 := later (w := w1.alloc (.cells #[.int .i64 0, .int .i64 k, .int .i64 0, .string p.name, .int .i64 p.line, .int .i64 p.col] 43)) (p := ⟨w1.heap.size, 4, none⟩) (v := .int .i64 p.line) (by simp [go_sem])
          have q5 := later (w := w1.alloc (.cells #[.int .i64 0, .int .i64 k, .int .i64 0, .string p.name, .int .i64 p.line, .int .i64 p.col] 43)) (p := ⟨w1.heap.size, 5, none⟩) (v := .int .i64 p.col) (by simp [go_sem])
          have oz : Old w1 (w1.alloc (.cells #[.int .i64 0, .int .i64 k, .int .i64 0, .string p.name, .int .i64 p.line, .int .i64 p.col] 43)) := (Old.refl w1).alloc _
          have z0 := c0 _ oz
          have z1 := c1 _ oz
          have z2 := c2 _ oz
          have z3 := c3 _ oz
          have z4 := c4 _ oz
          have z5 := c5 _ oz
          have zf := fun j => hf j _ oz
          have zd := dk _ oz
          have o3 := o2.trans oz
          generalize w1.alloc (.cells #[.int .i64 0, .int .i64 k, .int .i64 0, .string p.name, .int .i64 p.line, .int .i64 p.col] 43) = w2 at *
          clear c0 c1 c2 c3 c4 c5 hf dk p0 p2 p3 p4 oz
          go_wp2_with fail
          refine bodyPost_ret (v := .tuple #[.agg (rfC (judged (.ok k) p).1).toArray, .int .i64 (judged (.ok k) p).2]) (by simp [results, Tryd.results12, go_sem, z0, z1, z2, z3, z4, z5, rfC, judged, hnt]) rfl ⟨rfl, ?_⟩
          exact ((((((o3.setCell (Nat.le_succ _) _).setCell (Nat.le_succ _) _).setCell (Nat.le_succ _) _).setCell (Nat.le_succ _) _).setCell (Nat.le_succ _) _).setCell (Nat.le_succ _) _)
        · have hbk : (d.kind != 0) = true := by rw [bne_iff_ne]; exact hkd
          have hj2 : J = .error 81 := by rw [hj, hnt, if_neg hkd]
          subst hj2
          clear hj hkd
          go_enter Tryd.func12, Tryd.ntmps12
          go_wp2_with fail
          refine (HN.out _ (((Old.refl w).alloc _).alloc _)).mono ?_
          rintro e w1 ⟨rfl, o1⟩
          have o2 := ((((Old.refl w).alloc _).alloc _)).trans o1
          have hlt : w.heap.size + 1 < w1.heap.size := by have := o1.size; simp [go_sem] at this; omega
          have c0 := later (o1.cell (p := ⟨w.heap.size + 1, 0, none⟩) (v := .int .i64 0) (by simp [go_sem]))
          have c1 := later (o1.cell (p := ⟨w.heap.size + 1, 1, none⟩) (v := .int .i64 0) (by simp [go_sem]))
          have c2 := later (o1.cell (p := ⟨w.heap.size + 1, 2, none⟩) (v := .int .i64 0) (by simp [go_sem]))
          have c3 := later (o1.cell (p := ⟨w.heap.size + 1, 3, none⟩) (v := .string ⟨#[]⟩) (by simp [go_sem]))
          have c4 := later (o1.cell (p := ⟨w.heap.size + 1, 4, none⟩) (v := .int .i64 0) (by simp [go_sem]))
          have c5 := later (o1.cell (p := ⟨w.heap.size + 1, 5, none⟩) (v := .int .i64 0) (by simp [go_sem]))
          have hf : ∀ j V, Old w1 V → V.frozen? ⟨w.heap.size + 1, j, none⟩ = false := fun j V o => by
            rw [frozen_old (o1.trans o) (by simp [go_sem])]
            simp [go_sem]
          have p0 := later (o1.cell (p := ⟨w.heap.size, 0, none⟩) (v := .int .i64 p.kind) (by simp [go_sem]))
          have p2 := later (o1.cell (p := ⟨w.heap.size, 2, none⟩) (v := .string p.name) (by simp [go_sem]))
          have p3 := later (o1.cell (p := ⟨w.heap.size, 3, none⟩) (v := .int .i64 p.line) (by simp [go_sem]))
          have p4 := later (o1.cell (p := ⟨w.heap.size, 4, none⟩) (v := .int .i64 p.col) (by simp [go_sem]))
          have dk : ∀ V, Old w1 V → V.cell? ⟨bd, od + k * 6 + 4, none⟩ = some (.int .i64 d.kind) := fun V o => hd4 V (o2.trans o)
          go_upto_region 9 with (refine wpList_lookup_mto_ok rfl _ _ _ rfl _ _ Tryd.underlying9 Tryd.underlying47 Tryd.underlying3 zeroInt mb _ (idx dir) rfl (HM.out.old o2) nm rfl (by omega) (some k) Hix.out ?_; rw [show optN (some k) = (k : Int) from rfl])
          have q0 := later (w := w1.alloc (.cells #[.int .i64 0, .int .i64 k, .int .i64 0, .string p.name, .int .i64 p.line, .int .i64 p.col] 43)) (p := ⟨w1.heap.size, 0, none⟩) (v := .int .i64 0) (by simp [go_sem])
          have q1 := later (w := w1.alloc (.cells #[.int .i64 0, .int .i64 k, .int .i64 0, .string p.name, .int .i64 p.line, .int .i64 p.col] 43)) (p := ⟨w1.heap.size, 1, none⟩) (v := .int .i64 (k : Int)) (by simp [go_sem])
          have q2 := later (w := w1.alloc (.cells #[.int .i64 0, .int .i64 k, .int .i64 0, .string p.name, .int .i64 p.line, .int .i64 p.col] 43)) (p := ⟨w1.heap.size, 2, none⟩) (v := .int .i64 0) (by simp [go_sem])
          have q3 := later (w := w1.alloc (.cells #[.int .i64 0, .int .i64 k, .int .i64 0, .string p.name, .int .i64 p.line, .int .i64 p.col] 43)) (p := ⟨w1.heap.size, 3, none⟩) (v := .string p.name) (by simp [go_sem])
          have q4 := later (w := w1.alloc (.cells #[.int .i64 0, .int .i64 k, .int .i64 0, .string p.name, .int .i64 p.line, .int .i64 p.col] 43)) (p := ⟨w1.heap.size, 4, none⟩) (v := .int .i64 p.line) (by simp [go_sem])
          have q5 := later (w := w1.alloc (.cells #[.int .i64 0, .int .i64 k, .int .i64 0, .string p.name, .int .i64 p.line, .int .i64 p.col] 43)) (p := ⟨w1.heap.size, 5, none⟩) (v := .int .i64 p.col) (by simp [go_sem])
          have oz : Old w1 (w1.alloc (.cells #[.int .i64 0, .int .i64 k, .int .i64 0, .string p.name, .int .i64 p.line, .int .i64 p.col] 43)) := (Old.refl w1).alloc _
          have z0 := c0 _ oz
          have z1 := c1 _ oz
          have z2 := c2 _ oz
          have z3 := c3 _ oz
          have z4 := c4 _ oz
          have z5 := c5 _ oz
          have zf := fun j => hf j _ oz
          have zd := dk _ oz
          have o3 := o2.trans oz
          generalize w1.alloc (.cells #[.int .i64 0, .int .i64 k, .int .i64 0, .string p.name, .int .i64 p.line, .int .i64 p.col] 43) = w2 at *
          clear c0 c1 c2 c3 c4 c5 hf dk p0 p2 p3 p4 oz
          go_wp2_with fail
          refine bodyPost_ret (v := .tuple #[.agg (rfC (judged (.error 81) p).1).toArray, .int .i64 (judged (.error 81) p).2]) (by simp [results, Tryd.results12, go_sem, z0, z1, z2, z3, z4, z5, rfC, judged]) rfl ⟨rfl, ?_⟩
          exact ((((((o3.setCell (Nat.le_succ _) _).setCell (Nat.le_succ _) _).setCell (Nat.le_succ _) _).setCell (Nat.le_succ _) _).setCell (Nat.le_succ _) _).setCell (Nat.le_succ _) _)
  · have hj : J = .error 80 := J0.out h0
    have hb : (ne != 0) = true := by rw [bne_iff_ne]; exact h0
    subst hj
    clear J0 J1 J2 h0
    go_enter Tryd.func12, Tryd.ntmps12
    go_wp2_with fail
    refine (HN.out _ (((Old.refl w).alloc _).alloc _)).mono ?_
    rintro e w1 ⟨rfl, o1⟩
    have o2 := ((((Old.refl w).alloc _).alloc _)).trans o1
    have hlt : w.heap.size + 1 < w1.heap.size := by have := o1.size; simp [go_sem] at this; omega
    have c0 := o1.cell (p := ⟨w.heap.size + 1, 0, none⟩) (by simp [go_sem]; rfl)
    have c1 := o1.cell (p := ⟨w.heap.size + 1, 1, none⟩) (by simp [go_sem]; rfl)
    have c2 := o1.cell (p := ⟨w.heap.size + 1, 2, none⟩) (by simp [go_sem]; rfl)
    have c3 := o1.cell (p := ⟨w.heap.size + 1, 3, none⟩) (by simp [go_sem]; rfl)
    have c4 := o1.cell (p := ⟨w.heap.size + 1, 4, none⟩) (by simp [go_sem]; rfl)
    have c5 := o1.cell (p := ⟨w.heap.size + 1, 5, none⟩) (by simp [go_sem]; rfl)
    have hf : ∀ j, w1.frozen? ⟨w.heap.size + 1, j, none⟩ = false := fun j => by
      rw [frozen_old o1 (by simp [go_sem])]
      simp [go_sem]
    go_wp2_with (refine wpList_lookup_mto_ok rfl _ _ _ rfl _ _ Tryd.underlying9 Tryd.underlying47 Tryd.underlying3 zeroInt mb _ (idx dir) rfl (HM.out.old o2) nm rfl (by omega) (idx dir nm) rfl ?_)
    refine bodyPost_ret (v := .tuple #[.agg (rfC (judged (.error 80) p).1).toArray, .int .i64 (judged (.error 80) p).2]) (by simp [results, Tryd.results12, go_sem, c0, c1, c2, c3, c4, c5, rfC, judged]) rfl ⟨rfl, ?_⟩
    exact (((((o2.setCell (Nat.le_succ _) _).setCell (Nat.le_succ _) _).setCell (Nat.le_succ _) _).setCell (Nat.le_succ _) _).setCell (Nat.le_succ _) _).setCell (Nat.le_succ _) _
end Go.Proofs.YtkaoipegbjmlnaaDoor
