/-
  TEXT, THE DOCUMENT's, A: control characters, the characters of a text, plain texts.
-/
import Derived.Test.YtohngjkedhpikaaGreatDoorZQuiet
import Derived.Test.YtohngjkedhpikaaGreatDoorZTextWords
namespace Go.Proofs.YtohngjkedhpikaaGreatDoor
open Go.RowKit
attribute [local go_sem] Old.refl Old.alloc Old.drew Old.setCell OldW.old

theorem Control_any (r : Int) (w : World) (h0 : 0 ≤ r) :
    Calls Tryz.prog 157 #[.int .i32 r] w fun e w' => e = .returned (.bool (ctlR r)) ∧ w = w' := by
  have hd0 : decide (0 ≤ r) = true := by simpa using h0
  by_cases h1 : r < 32
  · have hd : decide (r < 32) = true := by simpa using h1
    have Hv := Lib.hid (show ctlR r = true from by simp [ctlR, h1])
    clear h1
    go_enter Tryz.func157, Tryz.ntmps157
    go_wp2
    all_goals first
      | (exfalso; omega)
      | (go_ret; exact ⟨ret_bool Hv.out.symm, rfl⟩)
  · have hd : decide (r < 32) = false := by simpa using h1
    by_cases h2 : 127 ≤ r
    · have hd2 : decide (127 ≤ r) = true := by simpa using h2
      have Hv := Lib.hid (show ctlR r = decide (r ≤ 159) from by simp [ctlR, hd, hd2])
      clear h1 h2
      go_enter Tryz.func157, Tryz.ntmps157
      go_wp2
      all_goals first
        | (exfalso; omega)
        | (go_ret; exact ⟨ret_bool Hv.out.symm, rfl⟩)
    · have hd2 : decide (127 ≤ r) = false := by simpa using h2
      have Hv := Lib.hid (show ctlR r = false from by simp [ctlR, hd, hd2])
      clear h1 h2
      go_enter Tryz.func157, Tryz.ntmps157
      go_wp2
      all_goals first
        | (exfalso; omega)
        | (go_ret; exact ⟨ret_bool Hv.out.symm, rfl⟩)
/-- a character of a text: its number, its place, its bytes, whether it is none -/
structure Chr where
  r : Nat
  at' : Nat
  n : Nat
  bad : Bool
def chE : Enc Chr where
  k := 4
  enc x := [.int .i32 x.r, .int .i64 x.at', .int .i64 x.n, .bool x.bad]
  len _ := rfl
  one x u hu := by
    simp only [List.mem_cons, List.not_mem_nil, or_false] at hu
    rcases hu with rfl | rfl | rfl | rfl <;> rfl
theorem infoChar : (Tryz.prog.info? 97).map (fun i => (i.zero, i.size, i.bytes)) = some (some (.agg #[.int .i32 0, .int .i64 0, .int .i64 0, .bool false]), 4, 32) := by kernel_rfl
/-- the characters from a place on -/
def charsAt (l : List UInt8) (p : Nat) : List Chr := if p < l.length then ⟨chR l p, p, chN l p, badC l p⟩ :: charsAt l (p + chN l p) else []
termination_by l.length - p
decreasing_by have := chN_pos l p; omega
theorem charsAt_on {l : List UInt8} {p : Nat} (h : p < l.length) : charsAt l p = ⟨chR l p, p, chN l p, badC l p⟩ :: charsAt l (p + chN l p) := by rw [charsAt, if_pos h]
theorem charsAt_end {l : List UInt8} {p : Nat} (h : ¬ p < l.length) : charsAt l p = [] := by rw [charsAt, if_neg h]
theorem charsAt_len {l : List UInt8} : ∀ (d p : Nat), l.length - p = d → (charsAt l p).length ≤ d := by
  intro d
  induction d using Nat.strongRecOn with
  | _ d ih =>
    intro p hd
    by_cases h : p < l.length
    · rw [charsAt_on h]
      have h1 := chN_pos l p
      have := ih (l.length - (p + chN l p)) (by omega) (p + chN l p) rfl
      simp only [List.length_cons]; omega
    · rw [charsAt_end h]; simp
/-- where the characters stand: each right behind the one ahead; what each is -/
theorem charsAt_get {l : List UInt8} : ∀ (i p : Nat) (x : Chr), (charsAt l p)[i]? = some x → p ≤ x.at' ∧ x.at' < l.length ∧ x = ⟨chR l x.at', x.at', chN l x.at', badC l x.at'⟩ ∧ (charsAt l p)[i + 1]?.map (·.at') = (if x.at' + x.n < l.length then some (x.at' + x.n) else none)
  | i, p, x, hx => by
    by_cases h : p < l.length
    · rw [charsAt_on h] at hx ⊢
      cases i with
      | zero =>
        obtain rfl : _ = x := by simpa using hx
        refine ⟨Nat.le_refl _, h, rfl, ?_⟩
        simp only [Nat.zero_add, List.getElem?_cons_succ]
        by_cases h2 : p + chN l p < l.length
        · rw [if_pos h2, charsAt_on h2]; rfl
        · rw [if_neg h2, charsAt_end h2]; rfl
      | succ i =>
        have := charsAt_get i (p + chN l p) x (by simpa using hx)
        refine ⟨by omega, this.2.1, this.2.2.1, ?_⟩
        rw [List.getElem?_cons_succ]
        exact this.2.2.2
    · rw [charsAt_end h] at hx; simp at hx
termination_by i => i
theorem OwnS.iterAt {α : Type} {c : Enc α} {E : TypeId} {w0 w : World} {v : Value} {t : List α} (h : OwnS c E w0 w v t) {k : Nat} {s : ByteArray} (pos' : Nat) (hl : k < w0.heap.size) : OwnS c E w0 (w.iterAt k s pos') v t := by
  obtain ⟨h1, h2⟩ := h
  refine ⟨h1, ?_⟩
  rcases h2 with h2 | ⟨g, cap, cur, e, hb, hg, r⟩
  · exact .inl h2
  · exact .inr ⟨g, cap, cur, e, hb, by rw [Lib.iterAt_other w k g s pos' (by omega)]; exact hg, r⟩
/-- as the first round leaves a character -/
def Chr.raw (x : Chr) : Chr := { x with n := 0, bad := false }
/-- the first i characters as they are, the others as the first round leaves them -/
def mixC (t : List Chr) (i : Nat) : List Chr := t.take i ++ (t.drop i).map Chr.raw
theorem mixC_len (t : List Chr) (i : Nat) : (mixC t i).length = t.length := by simp [mixC]; omega
theorem mixC_zero (t : List Chr) : mixC t 0 = t.map Chr.raw := by simp [mixC]
theorem mixC_all (t : List Chr) : mixC t t.length = t := by simp [mixC]
theorem mixC_get {t : List Chr} {i j : Nat} {x : Chr} (h : t[j]? = some x) (hj : i ≤ j) : (mixC t i)[j]? = some x.raw := by
  have hlt := (List.getElem?_eq_some_iff.1 h).1
  unfold mixC
  rw [List.getElem?_append_right (by simp; omega), List.length_take, Nat.min_eq_left (by omega), List.getElem?_map, List.getElem?_drop, show i + (j - i) = j by omega, h]
  rfl
theorem mixC_succ {t : List Chr} {i : Nat} {x : Chr} (h : t[i]? = some x) : mixC t (i + 1) = (mixC t i).set i x := by
  have hlt := (List.getElem?_eq_some_iff.1 h).1
  have hx := (List.getElem?_eq_some_iff.1 h).2
  unfold mixC
  rw [List.set_append_right _ _ (by simp; omega), List.length_take, Nat.min_eq_left (by omega), Nat.sub_self, List.take_succ_eq_append_getElem hlt, hx, List.drop_eq_getElem_cons hlt, List.map_cons, List.set_cons_zero, List.append_assoc]
  rfl
set_option maxRecDepth 100000 in
set_option maxHeartbeats 1600000 in
theorem Chars_any (s : ByteArray) (w : World) (hs : s.size * 32 ≤ 140737488355328) :
    Calls Tryz.prog 49 #[.string s] w fun e w' => (∃ v, e = .returned v ∧ OwnS chE 97 w w' v (charsAt s.data.toList 0)) ∧ Old w w' := by
  go_enter Tryz.func49, Tryz.ntmps49
  go_wp2
  go_loopw [3] (fun x wr => ∃ (pos : Nat) (t : List Chr), pos ≤ s.size ∧ t.length ≤ pos ∧ wr.heap[w.heap.size]? = some (.stringIter s pos) ∧ OwnS chE 97 (w.alloc (.stringIter s 0)) wr x (t.map Chr.raw) ∧ Old w wr ∧ t ++ charsAt s.data.toList pos = charsAt s.data.toList 0) (fun _ wr => s.size - wr.iterPos w.heap.size)
  case atStart => exact ⟨0, [], Nat.zero_le _, Nat.zero_le _, by simpa using World.iter_heap w s 0, OwnS.nil _ _ _ _, (Old.refl w).alloc _, rfl⟩
  case round =>
    obtain ⟨pos, t, hps, htp, hit, hown, ho, hat⟩ := hrel
    have Hat := Lib.hid hat
    clear hat
    by_cases hp : pos < s.size
    · have hnx : ∀ ty, (Instr.next (.pointer (some ⟨w.heap.size, 0, none⟩)) true ty).run Tryz.prog wr = _ := fun ty => next_at wr w.heap.size s pos ty hit hp
      have hn1 := chN_pos s.data.toList pos
      have hn2 := chN_le (l := s.data.toList) (p := pos) (by rw [str_len]; exact hp)
      rw [str_len] at hn2
      have Hon := Lib.hid (charsAt_on (l := s.data.toList) (p := pos) (by rw [str_len]; exact hp))
      have hit2 := Lib.iterAt_heap wr w.heap.size s pos (pos + chN s.data.toList pos) hit
      have ho2 := ho.iterAt (Nat.le_refl _) s (pos + chN s.data.toList pos)
      have hown2 : OwnS chE 97 (w.alloc (.stringIter s 0)) (wr.iterAt w.heap.size s (pos + chN s.data.toList pos)) _ (t.map Chr.raw) := hown.iterAt _ (by simp [go_sem])
      have hsz2 : (w.alloc (.stringIter s 0)).heap.size ≤ (wr.iterAt w.heap.size s (pos + chN s.data.toList pos)).heap.size := by
        have := (Array.getElem?_eq_some_iff.1 hit2).1
        simp [go_sem]; omega
      generalize wr.iterAt w.heap.size s (pos + chN s.data.toList pos) = w2 at *
      clear hown
      go_wp2_with (at_builtin; refine wpList_append_rec1 (c := chE) (w0 := w.alloc (.stringIter s 0)) rfl _ _ 94 rfl 97 Tryz.underlying94 _ infoChar rfl (by decide) _ (t.map Chr.raw) rfl (hown2.alloc _) w2.heap.size ⟨chR s.data.toList pos, pos, 0, false⟩ rfl (fun j u hu => by simp [go_sem]; simpa [chE] using hu) (by simp; omega) (by simp; omega) (by simp [go_sem] at hsz2 ⊢; omega) ?_; intro v' w4 hown4 hgr)
      have ho4 : Old w w4 := (ho2.alloc _).grown hgr (fun q hq => by have := (World.ownsRow.lt hown2 q hq).1; simp [go_sem] at this; omega)
      have hit4 : w4.heap[w.heap.size]? = some (.stringIter s (pos + chN s.data.toList pos)) := by
        have hlt2 := (Array.getElem?_eq_some_iff.1 hit2).1
        rw [hgr.block w.heap.size (by simp [go_sem]; omega) (fun hq => by have := (World.ownsRow.lt hown2 _ hq.symm).1; simp [go_sem] at this; omega)]
        rw [((Old.refl w2).alloc _).block _ hlt2]
        exact hit2
      go_roundw
      case rel =>
        refine ⟨pos + chN s.data.toList pos, t ++ [⟨chR s.data.toList pos, pos, chN s.data.toList pos, badC s.data.toList pos⟩], by omega, by simp; omega, hit4, ?_, ho4, ?_⟩
        · rw [List.map_append]; exact hown4
        · rw [← Hat.out, Hon.out, List.append_assoc]; rfl
      case measure => simp only [World.iterPos, hit4, hit]; omega
    · have Hend := Lib.hid (charsAt_end (l := s.data.toList) (p := pos) (by rw [str_len]; exact hp))
      have hnx : ∀ ty, (Instr.next (.pointer (some ⟨w.heap.size, 0, none⟩)) true ty).run Tryz.prog wr = _ := fun ty => Lib.run_next_end_at wr w.heap.size s pos ty hit hp
      have Ht := Lib.hid (show t = charsAt s.data.toList 0 from by rw [← Hat.out, Hend.out, List.append_nil])
      clear hit
      obtain ⟨a3, c3, rfl, hc31, hc32⟩ := hown.form
      have HO := Lib.hid hown
      have hl3 : (t.map Chr.raw).length = t.length := by simp
      rw [hl3] at HO hc31 ⊢
      have hb3 : 0 < t.length → ∃ g, a3 = some ⟨g, 0, none⟩ ∧ w.heap.size < g := fun hz => by
        obtain ⟨g, hg, hg1, _⟩ := hown.block (by simpa using hz)
        exact ⟨g, hg, by simp [go_sem] at hg1; omega⟩
      have htl : t.length ≤ 140737488355328 := by omega
      clear hown
      go_wp2_with fail
      go_loopw [6, 7] (fun j en wq => ∃ (i : Nat), i ≤ t.length ∧ j = .int .i64 i ∧ OwnS chE 97 (w.alloc (.stringIter s 0)) wq (.slice a3 t.length c3) (mixC t i) ∧ Old w wq) (fun j _ _ => t.length - (intOf j).toNat)
      case atStart => exact ⟨0, Nat.zero_le _, rfl, by rw [mixC_zero]; exact HO.out, ho⟩
      case round =>
        obtain ⟨i, hi, rfl, hown, hoq⟩ := hrel
        by_cases hlt : i < t.length
        · obtain ⟨g, rfl, hg⟩ := hb3 (by omega)
          obtain ⟨x, hx⟩ : ∃ x, t[i]? = some x := ⟨_, List.getElem?_eq_getElem hlt⟩
          have hx0 := hx
          rw [Ht.out] at hx0
          obtain ⟨_, hx1, hx2, hx3⟩ := charsAt_get i 0 x hx0
          rw [← Ht.out] at hx3
          have hxn := chN_pos s.data.toList x.at'
          have hxl := chN_le hx1
          have hnn : x.n = chN s.data.toList x.at' := by rw [hx2]
          rw [← hnn] at hxn hxl
          rw [str_len] at hx1 hxl hx3
          have hbad : x.bad = (x.r == 65533 && x.n == 1) := by rw [hx2]; rfl
          have hgx := mixC_get hx (Nat.le_refl i)
          have Hsucc := Lib.hid (mixC_succ hx)
          have k0 : wr.cell? ⟨g, i * 4, none⟩ = some (.int .i32 x.r) := hown.cell (j := 0) hgx rfl
          have k1 : wr.cell? ⟨g, i * 4 + 1, none⟩ = some (.int .i64 x.at') := hown.cell (j := 1) hgx rfl
          have k2 : wr.cell? ⟨g, i * 4 + 2, none⟩ = some (.int .i64 0) := hown.cell (j := 2) hgx rfl
          have k3 : wr.cell? ⟨g, i * 4 + 3, none⟩ = some (.bool false) := hown.cell (j := 3) hgx rfl
          have f2 := hown.frozen (i * 4 + 2)
          have f3 := hown.frozen (i * 4 + 3)
          have hownA := hown.stored (i := i) (j := 2) (x' := { x.raw with n := x.n }) (u := .int .i64 x.n) hgx (by decide) rfl
          have hownB := hownA.stored (i := i) (j := 3) (x := { x.raw with n := x.n }) (x' := x) (u := .bool x.bad) (by rw [List.getElem?_set_self (by rw [mixC_len]; exact hlt)]) (by decide) rfl
          rw [List.set_set, ← Hsucc.out] at hownB
          have HB := Lib.hid hownB
          have hsplit : (x.r = 65533 ∧ x.n = 1 ∧ x.bad = true) ∨ (x.r = 65533 ∧ ¬ x.n = 1 ∧ x.bad = false) ∨ (¬ x.r = 65533 ∧ x.bad = false) := by
            rw [hbad]
            by_cases e1 : x.r = 65533 <;> by_cases e2 : x.n = 1 <;> simp [e1, e2]
          have hend : (i + 1 < t.length ∧ wr.cell? ⟨g, (i + 1) * 4 + 1, none⟩ = some (.int .i64 ((x.at' : Int) + x.n))) ∨ (¬ i + 1 < t.length ∧ (s.size : Int) = (x.at' : Int) + x.n) := by
            by_cases hnx : i + 1 < t.length
            · obtain ⟨y, hy⟩ : ∃ y, t[i + 1]? = some y := ⟨_, List.getElem?_eq_getElem hnx⟩
              have hgy := mixC_get hy (show i ≤ i + 1 by omega)
              have hya : y.at' = x.at' + x.n := by
                rw [hy] at hx3
                split at hx3
                · simpa using hx3
                · simp at hx3
              have := hown.cell (j := 1) hgy rfl
              rw [show (y.raw).at' = x.at' + x.n from hya] at this
              exact .inl ⟨hnx, this⟩
            · rw [List.getElem?_eq_none (by omega)] at hx3
              split at hx3
              · simp at hx3
              · exact .inr ⟨hnx, by omega⟩
          clear hx hx0 hx1 hx2 hx3 hnn hbad hgx hown hownA hownB
          generalize x.at' = A at *
          generalize x.n = Nn at *
          generalize x.r = R at *
          have HAN := Lib.hid (show (A : Int) + Nn - A = Nn from by omega)
          have hA64 : (A : Int) ≤ 140737488355328 := by omega
          have hN64 : (A : Int) + Nn ≤ 140737488355328 := by omega
          rcases hsplit with ⟨hr, hn, hbt⟩ | ⟨hr, hn, hbt⟩ | ⟨hr, hbt⟩
          case' inl =>
            have Hr := Lib.hid hr
            have hb1 : ((R : Int) == 65533) = true := by rw [beq_iff_eq]; omega
            have hb2 : ((A : Int) + Nn - A == 1) = true := by rw [beq_iff_eq]; omega
          case' inr.inl =>
            have hb1 : ((R : Int) == 65533) = true := by rw [beq_iff_eq]; omega
            have hb2 : ((A : Int) + Nn - A == 1) = false := by rw [beq_eq_false_iff_ne]; omega
          case' inr.inr =>
            have hb1 : ((R : Int) == 65533) = false := by rw [beq_eq_false_iff_ne]; omega
          all_goals
            rw [hbt] at HB
            clear hbt
            try clear hr
            try clear hn
            rcases hend with ⟨hnx, k5⟩ | ⟨hnx, hse⟩
            · have hd : decide ((i : Int) + 1 < t.length) = true := by simp; omega
              have hi1 : (i : Int) + 1 < t.length := by omega
              go_wp2_with fail
              rw [HAN.out]
              go_roundw
              case rel => exact ⟨i + 1, by omega, by go_num, HB.out, (hoq.setCell (show w.heap.size ≤ g by omega) _).setCell (show w.heap.size ≤ g by omega) _⟩
              case measure => simp [intOf]; omega
            · have hd : decide ((i : Int) + 1 < t.length) = false := by simp; omega
              have hi1 : ¬ (i : Int) + 1 < t.length := by omega
              go_wp2_with fail
              rw [HAN.out]
              go_roundw
              case rel => exact ⟨i + 1, by omega, by go_num, HB.out, (hoq.setCell (show w.heap.size ≤ g by omega) _).setCell (show w.heap.size ≤ g by omega) _⟩
              case measure => simp [intOf]; omega
        · obtain rfl : i = t.length := by omega
          rw [mixC_all] at hown
          go_wp2_with fail
          go_ret
          exact ⟨⟨_, rfl, by rw [← Ht.out]; exact hown.lower (by simp [go_sem])⟩, hoq⟩
/-- the first of these characters that is not plain -/
def plainC : List Chr → Nat × Bool
  | [] => (0, true)
  | x :: r => if ctlR x.r || x.bad then (x.at', false) else plainC r
theorem plainC_no {t : List Chr} {i : Nat} {x : Chr} (h : t[i]? = some x) (h' : (ctlR x.r || x.bad) = true) : plainC (t.drop i) = (x.at', false) := by
  rw [List.drop_eq_getElem_cons (List.getElem?_eq_some_iff.1 h).1, (List.getElem?_eq_some_iff.1 h).2, plainC, if_pos h']
theorem plainC_on {t : List Chr} {i : Nat} {x : Chr} (h : t[i]? = some x) (h' : (ctlR x.r || x.bad) = false) : plainC (t.drop i) = plainC (t.drop (i + 1)) := by
  rw [List.drop_eq_getElem_cons (List.getElem?_eq_some_iff.1 h).1, (List.getElem?_eq_some_iff.1 h).2, plainC, if_neg (by rw [h']; decide)]
theorem plainC_chars {l : List UInt8} : ∀ (d p : Nat), l.length - p = d → plainC (charsAt l p) = plainAt l p := by
  intro d
  induction d using Nat.strongRecOn with
  | _ d ih =>
    intro p hd
    by_cases h : p < l.length
    · have hn := chN_pos l p
      rw [charsAt_on h, plainC]
      by_cases h' : (ctlR (chR l p) || badC l p) = true
      · rw [if_pos h', plainAt_no h h']
      · rw [if_neg h', plainAt_on h (Bool.eq_false_iff.2 h')]
        exact ih (l.length - (p + chN l p)) (by omega) _ rfl
    · rw [charsAt_end h, plainAt_end h]; rfl
set_option maxRecDepth 100000 in
set_option maxHeartbeats 1600000 in
theorem RPlain_any (s : ByteArray) (w : World) (hs : s.size * 32 ≤ 140737488355328) :
    Calls Tryz.prog 158 #[.string s] w fun e w' => e = .returned (.tuple #[.int .i64 (plainAt s.data.toList 0).1, .bool (plainAt s.data.toList 0).2]) ∧ Old w w' := by
  have Hc := Lib.hid (Chars_any s w hs)
  have hlen := charsAt_len (l := s.data.toList) (s.data.toList.length - 0) 0 rfl
  rw [str_len, Nat.sub_zero] at hlen
  have Hpc := Lib.hid (plainC_chars (l := s.data.toList) _ 0 rfl)
  have Hget := Lib.hid (fun i x => charsAt_get (l := s.data.toList) i 0 x)
  go_enter Tryz.func158, Tryz.ntmps158
  go_wp2_with (go_at_call 49; refine Hc.out.mono ?_; rintro e w1 ⟨⟨v1, rfl, hv1⟩, ho1⟩; obtain ⟨a, cap, b, off, rfl, hcap1, hcap2, ha, ht⟩ := hv1.recs)
  go_loopw [5] (fun j wr => ∃ (i : Nat), i ≤ (charsAt s.data.toList 0).length ∧ j = .int .i64 i ∧ plainC ((charsAt s.data.toList 0).drop i) = plainC (charsAt s.data.toList 0) ∧ w1 = wr) (fun j _ => (charsAt s.data.toList 0).length - (intOf j).toNat)
  case atStart => exact ⟨0, Nat.zero_le _, rfl, rfl, by trivial⟩
  case round =>
    obtain ⟨i, hi, rfl, hat, rfl⟩ := hrel
    generalize charsAt s.data.toList 0 = t at *
    have Hat := Lib.hid hat
    clear hat
    by_cases hlt : i < t.length
    · obtain rfl := ha (by omega)
      obtain ⟨x, hx⟩ : ∃ x, t[i]? = some x := ⟨_, List.getElem?_eq_getElem hlt⟩
      have hi1 : (i : Int) < t.length := by omega
      have k0 : w1.cell? ⟨b, off + i * 4, none⟩ = some (.int .i32 x.r) := by
        have := ht (i * 4 + 0) _ (Enc.all_at (c := chE) (j := 0) hx rfl) w1 (Old.refl w1)
        exact this
      have k1 : w1.cell? ⟨b, off + i * 4 + 1, none⟩ = some (.int .i64 x.at') := by
        have := ht (i * 4 + 1) _ (Enc.all_at (c := chE) (j := 1) hx rfl) w1 (Old.refl w1)
        rwa [← Nat.add_assoc] at this
      have k3 : w1.cell? ⟨b, off + i * 4 + 3, none⟩ = some (.bool x.bad) := by
        have := ht (i * 4 + 3) _ (Enc.all_at (c := chE) (j := 3) hx rfl) w1 (Old.refl w1)
        rwa [← Nat.add_assoc] at this
      have Hx := Lib.hid hx
      clear hx ht ha
      by_cases hb : x.bad = true
      · have Hno := Lib.hid (plainC_no Hx.out (by rw [hb, Bool.or_true]))
        rw [hb] at k3
        clear hb
        go_wp2_with fail
        go_ret2
        exact ⟨ret_ib (by rw [← Hpc.out, ← Hat.out, Hno.out]) (by rw [← Hpc.out, ← Hat.out, Hno.out]), ho1⟩
      · have hb := Bool.eq_false_iff.2 hb
        rw [hb] at k3
        have Cc := Control_any x.r w1 (by omega)
        by_cases hc : ctlR x.r = true
        · have Hno := Lib.hid (plainC_no Hx.out (by rw [hc, Bool.true_or]))
          rw [hc] at Cc
          have Hc := Lib.hid Cc
          clear hb hc Cc
          go_wp2_with (go_at_call 157; refine Hc.out.mono ?_; rintro r w3 ⟨rfl, rfl⟩)
          go_ret2
          exact ⟨ret_ib (by rw [← Hpc.out, ← Hat.out, Hno.out]) (by rw [← Hpc.out, ← Hat.out, Hno.out]), ho1⟩
        · have hc := Bool.eq_false_iff.2 hc
          have Hon := Lib.hid (plainC_on Hx.out (by rw [hc, hb]; rfl))
          rw [hc] at Cc
          have Hc := Lib.hid Cc
          clear hb hc Cc
          go_wp2_with (go_at_call 157; refine Hc.out.mono ?_; rintro r w3 ⟨rfl, rfl⟩)
          go_roundw
          case rel => exact ⟨i + 1, by omega, by go_num, by rw [← Hon.out]; exact Hat.out, by trivial⟩
          case measure => simp [intOf]; omega
    · have Hend := Lib.hid (show plainC (t.drop i) = (0, true) from by rw [List.drop_eq_nil_of_le (by omega)]; rfl)
      have hi1 : ¬ (i : Int) < t.length := by omega
      clear ht ha
      go_wp2_with fail
      go_ret2
      exact ⟨ret_ib (by rw [← Hpc.out, ← Hat.out, Hend.out]; rfl) (by rw [← Hpc.out, ← Hat.out, Hend.out]), ho1⟩
end Go.Proofs.YtohngjkedhpikaaGreatDoor
