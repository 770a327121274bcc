/-
  TEXT, GOOD: texts of characters alone.
-/
import Derived.Test.YtjkpmdckpfklgaaDoorTextRefA
namespace Go.Proofs.YtjkpmdckpfklgaaDoor
open Go.RowKit
attribute [local go_sem] Old.refl Old.alloc Old.drew Old.setCell OldW.old

/-- what is read of a text from a place on: where a byte begins no character, whether none does -/
def goodAt (l : List UInt8) (p : Nat) : Nat × Bool :=
  if p < l.length then (if badC l p then (p, false) else goodAt l (p + chN l p)) else (0, true)
termination_by l.length - p
decreasing_by have := chN_pos l p; omega
theorem goodAt_end {l : List UInt8} {p : Nat} (h : ¬ p < l.length) : goodAt l p = (0, true) := by rw [goodAt, if_neg h]
theorem goodAt_no {l : List UInt8} {p : Nat} (h : p < l.length) (h' : badC l p = true) : goodAt l p = (p, false) := by rw [goodAt, if_pos h, if_pos h']
theorem goodAt_on {l : List UInt8} {p : Nat} (h : p < l.length) (h' : badC l p = false) : goodAt l p = goodAt l (p + chN l p) := by
  rw [goodAt, if_pos h, if_neg (by rw [h']; decide)]
set_option maxHeartbeats 800000 in
theorem Good_any (s : ByteArray) (w : World) (hT : Tabs w) :
    Calls Tryd.prog 37 #[.string s] w fun e w' => e = .returned (.tuple #[.int .i64 (goodAt s.data.toList 0).1, .bool (goodAt s.data.toList 0).2]) ∧ Old w w' := by
  go_enter Tryd.func37, Tryd.ntmps37
  go_wp2
  go_loopw [] (fun wr => ∃ (pos : Nat), pos ≤ s.size ∧ wr.heap[w.heap.size]? = some (.stringIter s pos) ∧ Old w wr ∧ goodAt s.data.toList pos = goodAt s.data.toList 0) (fun wr => s.size - wr.iterPos w.heap.size)
  case atStart => exact ⟨0, Nat.zero_le _, by simpa using World.iter_heap w s 0, (Old.refl w).alloc _, rfl⟩
  case round =>
    obtain ⟨pos, hps, hit, ho, hat⟩ := hrel
    have Hat := Lib.hid hat
    clear hat
    by_cases hp : pos < s.size
    · have hnx : ∀ ty, (Instr.next (.pointer (some ⟨w.heap.size, 0, none⟩)) true ty).run Tryd.prog wr = _ := fun ty => next_at wr w.heap.size s pos ty hit hp
      have hn1 := chN_pos s.data.toList pos
      have hn2 := chN_le (l := s.data.toList) (p := pos) (by rw [str_len]; exact hp)
      rw [str_len] at hn2
      have hit2 := Lib.iterAt_heap wr w.heap.size s pos (pos + chN s.data.toList pos) hit
      have ho2 := ho.iterAt (Nat.le_refl _) s (pos + chN s.data.toList pos)
      have hT2 := hT.old ho2
      generalize wr.iterAt w.heap.size s (pos + chN s.data.toList pos) = w2 at *
      by_cases h5 : chR s.data.toList pos = 65533
      · have hb5 : ((chR s.data.toList pos : Int) == 65533) = true := by rw [beq_iff_eq]; omega
        have Cb := bad_any s pos w2 hT2 hp
        by_cases hb : badC s.data.toList pos = true
        · have Hno := Lib.hid (goodAt_no (l := s.data.toList) (p := pos) (by rw [str_len]; exact hp) hb)
          rw [hb] at Cb
          have Hb := Lib.hid Cb
          clear Cb hb h5
          go_wp2_with (go_at_call 61; refine Hb.out.mono ?_; rintro r w3 ⟨rfl, ho3⟩)
          go_ret2
          exact ⟨ret_ib (by rw [← Hat.out, Hno.out]) (by rw [← Hat.out, Hno.out]), ho2.trans ho3⟩
        · have hb := Bool.eq_false_iff.2 hb
          have Hon := Lib.hid (goodAt_on (l := s.data.toList) (p := pos) (by rw [str_len]; exact hp) hb)
          rw [hb] at Cb
          have Hb := Lib.hid Cb
          clear Cb hb h5
          go_wp2_with (go_at_call 61; refine Hb.out.mono ?_; rintro r w3 ⟨rfl, ho3⟩)
          have hit3 := ho3.heap hit2
          go_roundw
          case rel => exact ⟨pos + chN s.data.toList pos, by omega, hit3, ho2.trans ho3, by rw [← Hon.out]; exact Hat.out⟩
          case measure => simp only [World.iterPos, hit3, hit]; omega
      · have hb5 : ((chR s.data.toList pos : Int) == 65533) = false := by rw [beq_eq_false_iff_ne]; omega
        have Hon := Lib.hid (goodAt_on (l := s.data.toList) (p := pos) (by rw [str_len]; exact hp) (by unfold badC; rw [show (chR s.data.toList pos == 65533) = false from by rw [beq_eq_false_iff_ne]; exact h5]; rfl))
        clear h5
        go_wp2_with fail
        go_roundw
        case rel => exact ⟨pos + chN s.data.toList pos, by omega, hit2, ho2, by rw [← Hon.out]; exact Hat.out⟩
        case measure => simp only [World.iterPos, hit2, hit]; omega
    · have Hend := Lib.hid (goodAt_end (l := s.data.toList) (p := pos) (by rw [str_len]; exact hp))
      have hnx : ∀ ty, (Instr.next (.pointer (some ⟨w.heap.size, 0, none⟩)) true ty).run Tryd.prog wr = _ := fun ty => Lib.run_next_end_at wr w.heap.size s pos ty hit hp
      go_wp2_with fail
      go_ret2
      exact ⟨ret_ib (by rw [← Hat.out, Hend.out]; rfl) (by rw [← Hat.out, Hend.out]), ho⟩
/-- the first of these characters that is not good -/
def goodC : List Chr → Nat × Bool
  | [] => (0, true)
  | x :: r => if x.bad then (x.at', false) else goodC r
theorem goodC_no {t : List Chr} {i : Nat} {x : Chr} (h : t[i]? = some x) (h' : x.bad = true) : goodC (t.drop i) = (x.at', false) := by
  rw [List.drop_eq_getElem_cons (List.getElem?_eq_some_iff.1 h).1, (List.getElem?_eq_some_iff.1 h).2, goodC, if_pos h']
theorem goodC_on {t : List Chr} {i : Nat} {x : Chr} (h : t[i]? = some x) (h' : x.bad = false) : goodC (t.drop i) = goodC (t.drop (i + 1)) := by
  rw [List.drop_eq_getElem_cons (List.getElem?_eq_some_iff.1 h).1, (List.getElem?_eq_some_iff.1 h).2, goodC, if_neg (by rw [h']; decide)]
theorem goodC_chars {l : List UInt8} : ∀ (d p : Nat), l.length - p = d → goodC (charsAt l p) = goodAt l p := by
  intro d
  induction d using Nat.strongRecOn with
  | _ d ih =>
    intro p hd
    by_cases h : p < l.length
    · have hn := chN_pos l p
      rw [charsAt_on h, goodC]
      by_cases h' : badC l p = true
      · rw [if_pos h', goodAt_no h h']
      · rw [if_neg h', goodAt_on h (Bool.eq_false_iff.2 h')]
        exact ih (l.length - (p + chN l p)) (by omega) _ rfl
    · rw [charsAt_end h, goodAt_end h]; rfl
set_option maxRecDepth 100000 in
set_option maxHeartbeats 1600000 in
theorem RGood_any (s : ByteArray) (w : World) (hs : s.size * 32 ≤ 140737488355328) :
    Calls Tryd.prog 38 #[.string s] w fun e w' => e = .returned (.tuple #[.int .i64 (goodAt s.data.toList 0).1, .bool (goodAt s.data.toList 0).2]) ∧ Old w w' := by
  have Hc := Lib.hid (Chars_any s w hs)
  have hlen := charsAt_len (l := s.data.toList) (s.data.toList.length - 0) 0 rfl
  rw [str_len, Nat.sub_zero] at hlen
  have Hpc := Lib.hid (goodC_chars (l := s.data.toList) _ 0 rfl)
  have Hget := Lib.hid (fun i x => charsAt_get (l := s.data.toList) i 0 x)
  go_enter Tryd.func38, Tryd.ntmps38
  go_wp2_with (go_at_call 24; refine Hc.out.mono ?_; rintro e w1 ⟨⟨v1, rfl, hv1⟩, ho1⟩; obtain ⟨a, cap, b, off, rfl, hcap1, hcap2, ha, ht⟩ := hv1.recs)
  go_loopw [5] (fun j wr => ∃ (i : Nat), i ≤ (charsAt s.data.toList 0).length ∧ j = .int .i64 i ∧ goodC ((charsAt s.data.toList 0).drop i) = goodC (charsAt s.data.toList 0) ∧ w1 = wr) (fun j _ => (charsAt s.data.toList 0).length - (intOf j).toNat)
  case atStart => exact ⟨0, Nat.zero_le _, rfl, rfl, by trivial⟩
  case round =>
    obtain ⟨i, hi, rfl, hat, rfl⟩ := hrel
    generalize charsAt s.data.toList 0 = t at *
    have Hat := Lib.hid hat
    clear hat
    by_cases hlt : i < t.length
    · obtain rfl := ha (by omega)
      obtain ⟨x, hx⟩ : ∃ x, t[i]? = some x := ⟨_, List.getElem?_eq_getElem hlt⟩
      have hi1 : (i : Int) < t.length := by omega
      have k0 : w1.cell? ⟨b, off + i * 4, none⟩ = some (.int .i32 x.r) := by
        have := ht (i * 4 + 0) _ (Enc.all_at (c := chE) (j := 0) hx rfl) w1 (Old.refl w1)
        exact this
      have k1 : w1.cell? ⟨b, off + i * 4 + 1, none⟩ = some (.int .i64 x.at') := by
        have := ht (i * 4 + 1) _ (Enc.all_at (c := chE) (j := 1) hx rfl) w1 (Old.refl w1)
        rwa [← Nat.add_assoc] at this
      have k3 : w1.cell? ⟨b, off + i * 4 + 3, none⟩ = some (.bool x.bad) := by
        have := ht (i * 4 + 3) _ (Enc.all_at (c := chE) (j := 3) hx rfl) w1 (Old.refl w1)
        rwa [← Nat.add_assoc] at this
      have Hx := Lib.hid hx
      clear hx ht ha
      by_cases hb : x.bad = true
      · have Hno := Lib.hid (goodC_no Hx.out hb)
        rw [hb] at k3
        clear hb
        go_wp2_with fail
        go_ret2
        exact ⟨ret_ib (by rw [← Hpc.out, ← Hat.out, Hno.out]) (by rw [← Hpc.out, ← Hat.out, Hno.out]), ho1⟩
      · have hb := Bool.eq_false_iff.2 hb
        rw [hb] at k3
        have Hon := Lib.hid (goodC_on Hx.out hb)
        clear hb
        go_wp2_with fail
        go_roundw
        case rel => exact ⟨i + 1, by omega, by go_num, by rw [← Hon.out]; exact Hat.out, by trivial⟩
        case measure => simp [intOf]; omega
    · have Hend := Lib.hid (show goodC (t.drop i) = (0, true) from by rw [List.drop_eq_nil_of_le (by omega)]; rfl)
      have hi1 : ¬ (i : Int) < t.length := by omega
      clear ht ha
      go_wp2_with fail
      go_ret2
      exact ⟨ret_ib (by rw [← Hpc.out, ← Hat.out, Hend.out]; rfl) (by rw [← Hpc.out, ← Hat.out, Hend.out]), ho1⟩
end Go.Proofs.YtjkpmdckpfklgaaDoor
