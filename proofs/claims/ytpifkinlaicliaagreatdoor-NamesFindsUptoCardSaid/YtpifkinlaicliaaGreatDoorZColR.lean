/-
  THE DOCUMENT's NORM (names): as the program's.
-/
import Derived.Test.YtpifkinlaicliaaGreatDoorZTextOrder
import Derived.Test.YtpifkinlaicliaaGreatDoorZCollectE
namespace Go.Proofs.YtpifkinlaicliaaGreatDoor
open Go.RowKit
attribute [local go_sem] Old.refl Old.alloc Old.drew Old.setCell OldW.old
set_option maxHeartbeats 800000 in
theorem RNorm_any (s : ByteArray) (w : World) :
    Calls Tryz.prog 21 #[.string s] w fun e w' => e = .returned (.tuple #[.string (normR s).1, .int .i64 (normR s).2]) ∧ Old w w' := by
  by_cases h64 : 64 < s.size
  · have hi : (64 : Int) < s.size := by omega
    have Hr : Hid (normR s = (⟨#[]⟩, 2)) := Lib.hid (by unfold normR; rw [if_pos h64])
    clear h64
    go_enter Tryz.func21, Tryz.ntmps21
    go_wp2_with fail
    go_ret2
    exact ⟨ret_two (by rw [Hr.out]; rfl) (by rw [Hr.out]; rfl), Old.refl _⟩
  · have hi : ¬ (64 : Int) < s.size := by omega
    have HP := Lib.hid (fun V => RPlain_any s V (by omega))
    have HF := Lib.hid (fun V => RFold_any s V (by omega))
    cases hp : (plainAt s.data.toList 0).2 with
    | false =>
      have Hr : Hid (normR s = (⟨#[]⟩, 70)) := Lib.hid (by unfold normR; rw [if_neg h64, if_pos hp])
      rw [hp] at HP
      clear h64 hp
      go_enter Tryz.func21, Tryz.ntmps21
      go_wp2_with fail
      refine (HP.out _).mono ?_
      rintro e w1 ⟨rfl, o1⟩
      go_wp2_with fail
      refine (HF.out _).mono ?_
      rintro e w2 ⟨rfl, o2⟩
      go_wp2_with fail
      go_ret2
      exact ⟨ret_two (by rw [Hr.out]; rfl) (by rw [Hr.out]; rfl), o1.trans o2⟩
    | true =>
      rw [hp] at HP
      by_cases hf : foldS s = ⟨#[]⟩
      · have Hr : Hid (normR s = (⟨#[]⟩, 70)) := Lib.hid (by unfold normR; rw [if_neg h64, if_neg (by rw [hp]; exact Bool.noConfusion), if_pos hf])
        rw [hf] at HF
        clear h64 hp hf
        go_enter Tryz.func21, Tryz.ntmps21
        go_wp2_with fail
        refine (HP.out _).mono ?_
        rintro e w1 ⟨rfl, o1⟩
        go_wp2_with fail
        refine (HF.out _).mono ?_
        rintro e w2 ⟨rfl, o2⟩
        go_wp2_with fail
        go_ret2
        exact ⟨ret_two (by rw [Hr.out]; rfl) (by rw [Hr.out]; rfl), o1.trans o2⟩
      · have Hr : Hid (normR s = (foldS s, 0)) := Lib.hid (by unfold normR; rw [if_neg h64, if_neg (by rw [hp]; exact Bool.noConfusion), if_neg hf])
        have hs := str_nil hf
        generalize foldS s = f at *
        clear h64 hp hf
        go_enter Tryz.func21, Tryz.ntmps21
        go_wp2_with fail
        refine (HP.out _).mono ?_
        rintro e w1 ⟨rfl, o1⟩
        go_wp2_with fail
        refine (HF.out _).mono ?_
        rintro e w2 ⟨rfl, o2⟩
        go_wp2_with fail
        go_ret2
        exact ⟨ret_two (by rw [Hr.out]; rfl) (by rw [Hr.out]; rfl), o1.trans o2⟩
end Go.Proofs.YtpifkinlaicliaaGreatDoor
/-
  THE DOCUMENT's: a fault at a place; the first row of a Norm.
-/


namespace Go.Proofs.YtpifkinlaicliaaGreatDoor
open Go.RowKit
attribute [local go_sem] Old.refl Old.alloc Old.drew Old.setCell OldW.old

set_option maxRecDepth 100000 in
set_option maxHeartbeats 1600000 in
theorem At_any (code src line col : Int) (word : ByteArray) (w : World) :
    Calls Tryz.prog 42 #[.int .i64 code, .int .i64 src, .int .i64 line, .int .i64 col, .string word] w fun e w' => e = .returned (.agg (fltC ⟨code, src, line, col, word⟩).toArray) ∧ Old w w' := by
  go_enter Tryz.func42, Tryz.ntmps42
  go_upto_region 1 with fail
  have ho : Old w (w.alloc (.cells #[.int .i64 0, .int .i64 0, .int .i64 0, .int .i64 0, .string ⟨#[]⟩, .slice none 0 0] 54)) := (Old.refl w).alloc _
  have c0 : (w.alloc (.cells #[.int .i64 0, .int .i64 0, .int .i64 0, .int .i64 0, .string ⟨#[]⟩, .slice none 0 0] 54)).cell? ⟨w.heap.size, 0, none⟩ = some (.int .i64 0) := by simp [go_sem]
  have c1 : (w.alloc (.cells #[.int .i64 0, .int .i64 0, .int .i64 0, .int .i64 0, .string ⟨#[]⟩, .slice none 0 0] 54)).cell? ⟨w.heap.size, 1, none⟩ = some (.int .i64 0) := by simp [go_sem]
  have c2 : (w.alloc (.cells #[.int .i64 0, .int .i64 0, .int .i64 0, .int .i64 0, .string ⟨#[]⟩, .slice none 0 0] 54)).cell? ⟨w.heap.size, 2, none⟩ = some (.int .i64 0) := by simp [go_sem]
  have c3 : (w.alloc (.cells #[.int .i64 0, .int .i64 0, .int .i64 0, .int .i64 0, .string ⟨#[]⟩, .slice none 0 0] 54)).cell? ⟨w.heap.size, 3, none⟩ = some (.int .i64 0) := by simp [go_sem]
  have c4 : (w.alloc (.cells #[.int .i64 0, .int .i64 0, .int .i64 0, .int .i64 0, .string ⟨#[]⟩, .slice none 0 0] 54)).cell? ⟨w.heap.size, 4, none⟩ = some (.string ⟨#[]⟩) := by simp [go_sem]
  have c5 : (w.alloc (.cells #[.int .i64 0, .int .i64 0, .int .i64 0, .int .i64 0, .string ⟨#[]⟩, .slice none 0 0] 54)).cell? ⟨w.heap.size, 5, none⟩ = some (.slice none 0 0) := by simp [go_sem]
  have hf : ∀ j, (w.alloc (.cells #[.int .i64 0, .int .i64 0, .int .i64 0, .int .i64 0, .string ⟨#[]⟩, .slice none 0 0] 54)).frozen? ⟨w.heap.size, j, none⟩ = false := fun j => by simp [go_sem]
  generalize w.alloc (.cells #[.int .i64 0, .int .i64 0, .int .i64 0, .int .i64 0, .string ⟨#[]⟩, .slice none 0 0] 54) = w1 at *
  go_wp2_with fail
  (try simp only [Exit.inBlock, Exit.then])
  refine bodyPost_ret (v := .agg (fltC ⟨code, src, line, col, word⟩).toArray) (by simp [results, Tryz.results42, go_sem, c0, c1, c2, c3, c4, c5, fltC]) rfl ⟨rfl, ?_⟩
  exact (((((ho.setCell (Nat.le_refl _) _).setCell (Nat.le_refl _) _).setCell (Nat.le_refl _) _).setCell (Nat.le_refl _) _).setCell (Nat.le_refl _) _).setCell (Nat.le_refl _) _
theorem str_beqE (x y : ByteArray) : (x.toList == y.toList) = decide (x = y) := by
  rw [ByteArray.toList_eq, ByteArray.toList_eq, Bool.eq_iff_iff, beq_iff_eq, decide_eq_true_iff]
  constructor
  · intro h; exact ByteArray.ext (Array.toList_inj.1 h)
  · rintro rfl; rfl
/-- a row of that Norm stands there -/
def hasN (l : List Dn) (n : ByteArray) : Prop := n ∈ l.map Dn.norm
theorem Dn2.open {w : World} {a : Option Addr} {n cap : Nat} {D : List Dn} (h : Recs dnE w (.slice a n cap) D) : ∃ b off, (0 < D.length → a = some ⟨b, off, none⟩) ∧ ∀ (i : Nat) (x : Dn), D[i]? = some x →
    ∀ V, Old w V → V.cell? ⟨b, off + i * 6, none⟩ = some (.string x.name) ∧ V.cell? ⟨b, off + i * 6 + 1, none⟩ = some (.string x.norm) ∧ V.cell? ⟨b, off + i * 6 + 2, none⟩ = some (.int .i64 x.src) ∧ V.cell? ⟨b, off + i * 6 + 3, none⟩ = some (.int .i64 x.at') ∧
      V.cell? ⟨b, off + i * 6 + 4, none⟩ = some (.int .i64 x.kind) ∧ V.cell? ⟨b, off + i * 6 + 5, none⟩ = some (.int .i64 x.line) := by
  obtain ⟨a', cap', b, off, e, _, _, h3, ht⟩ := h
  obtain ⟨rfl, _, rfl⟩ := Value.slice.inj e
  refine ⟨b, off, h3, fun i x hx V o => ?_⟩
  have g0 := ht (i * 6 + 0) _ (Enc.all_at (c := dnE) (j := 0) hx rfl) V o
  have g1 := ht (i * 6 + 1) _ (Enc.all_at (c := dnE) (j := 1) hx rfl) V o
  have g2 := ht (i * 6 + 2) _ (Enc.all_at (c := dnE) (j := 2) hx rfl) V o
  have g3 := ht (i * 6 + 3) _ (Enc.all_at (c := dnE) (j := 3) hx rfl) V o
  have g4 := ht (i * 6 + 4) _ (Enc.all_at (c := dnE) (j := 4) hx rfl) V o
  have g5 := ht (i * 6 + 5) _ (Enc.all_at (c := dnE) (j := 5) hx rfl) V o
  rw [← Nat.add_assoc] at g1 g2 g3 g4 g5
  exact ⟨g0, g1, g2, g3, g4, g5⟩
set_option maxRecDepth 100000 in
set_option maxHeartbeats 1600000 in
theorem RIndex_any (v : Value) (l : List Dn) (n : ByteArray) (w : World) (hv : Recs dnE w v l) :
    Calls Tryz.prog 43 #[v, .string n] w fun e w' => (∃ k : Int, e = .returned (.int .i64 k) ∧ Hid (hasN l n → 0 ≤ k) ∧ Hid (¬ hasN l n → k = -1)) ∧ w = w' := by
  obtain ⟨a, cap, rfl, hc1, hc2⟩ := Recs.form hv
  obtain ⟨b, off, ha, hat⟩ := Dn2.open hv
  have Ha := Lib.hid ha
  have Hat := Lib.hid hat
  clear hv ha hat
  go_enter Tryz.func43, Tryz.ntmps43
  go_wp2_with fail
  go_loopw [8] (fun j wr => ∃ i : Nat, j = .int .i64 i ∧ i ≤ l.length ∧ Hid (∀ q, q < i → ∀ d, l[q]? = some d → ¬ d.norm = n) ∧ w = wr) (fun j _ => l.length - (intOf j).toNat)
  case atStart => exact ⟨0, rfl, Nat.zero_le _, Lib.hid (fun q hq => absurd hq (Nat.not_lt_zero q)), rfl⟩
  case round =>
    obtain ⟨i, rfl, hi, hno, rfl⟩ := hrel
    by_cases hlt : i < l.length
    · have hi1 : (i : Int) < l.length := by omega
      obtain ⟨d, hd⟩ : ∃ d, l[i]? = some d := ⟨_, List.getElem?_eq_getElem hlt⟩
      obtain rfl := Ha.out (by omega)
      have c1 := (Hat.out i d hd w (Old.refl w)).2.1
      by_cases hn : d.norm = n
      · have hm : hasN l n := List.mem_map.2 ⟨d, List.mem_of_getElem? hd, hn⟩
        have Hm := Lib.hid hm
        have hb : (d.norm.toList == n.toList) = true := by rw [str_beqE, decide_eq_true hn]
        clear hno hd hm hn
        go_wp2_with fail
        go_ret
        exact ⟨⟨_, rfl, Lib.hid (fun _ => by omega), Lib.hid (fun h => absurd Hm.out h)⟩, rfl⟩
      · have hb : (d.norm.toList == n.toList) = false := by rw [str_beqE, decide_eq_false hn]
        have Hno : Hid (∀ q, q < i + 1 → ∀ d, l[q]? = some d → ¬ d.norm = n) := Lib.hid fun q hq d' hd' => by
          rcases Nat.lt_or_ge q i with h | h
          · exact hno.out q h d' hd'
          · obtain rfl : q = i := by omega
            obtain rfl := Option.some.inj (hd.symm.trans hd')
            exact hn
        clear hno hd hn
        go_wp2_with fail
        go_roundw
        case rel => exact ⟨i + 1, by go_num, by omega, Hno, by first | rfl | trivial⟩
        case measure => simp [intOf]; omega
    · obtain rfl : i = l.length := by omega
      have hi1 : ¬ (l.length : Int) < l.length := by omega
      have Hm : Hid (¬ hasN l n) := Lib.hid fun h => by
        obtain ⟨d, hd, he⟩ := List.mem_map.1 h
        obtain ⟨q, hq, e⟩ := List.mem_iff_getElem.1 hd
        exact hno.out q hq d (by rw [List.getElem?_eq_getElem hq, e]) he
      clear hno
      go_wp2_with fail
      go_ret
      exact ⟨⟨_, rfl, Lib.hid (fun h => absurd h Hm.out), Lib.hid (fun _ => rfl)⟩, rfl⟩
end Go.Proofs.YtpifkinlaicliaaGreatDoor
