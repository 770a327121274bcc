/-
  TEXT, WORDS.
-/
import Derived.Test.YtjkpmdckpfklgaaDoorTextWide
import Derived.Deep.RegionHeld3
import Derived.Deep.AppendLies
import Derived.Deep.RegionLaw
namespace Go.Proofs.YtjkpmdckpfklgaaDoor
open Go.RowKit
attribute [local go_sem] Old.refl Old.alloc Old.drew Old.setCell OldW.old

theorem infoWord : (Tryd.prog.info? 59).map (fun i => (i.zero, i.size, i.bytes)) = some (some (.agg #[.string ⟨#[]⟩, .int .i64 0, .int .i64 0]), 3, 32) := by kernel_rfl
def isSp (s : ByteArray) (i : Nat) : Bool := s.data.toList.getD i 0 == 32
/-- a word more, if one stands there -/
def addW (s : ByteArray) (t : List CellR) (p i : Nat) : List CellR := if p < i then t ++ [⟨p, i, wideS (s.extract p i)⟩] else t
/-- the words, from a place on, behind those that are there, the last begun at p -/
def wordsGo (s : ByteArray) (i p : Nat) (t : List CellR) : List CellR :=
  if i ≤ s.size then (if i < s.size ∧ isSp s i = false then wordsGo s (i + 1) p t else wordsGo s (i + 1) (i + 1) (addW s t p i)) else t
termination_by s.size + 1 - i
def wordsS (s : ByteArray) : List CellR := wordsGo s 0 0 []
theorem wordsGo_in {s : ByteArray} {i : Nat} (h : i < s.size) (h' : isSp s i = false) (p : Nat) (t : List CellR) : wordsGo s i p t = wordsGo s (i + 1) p t := by rw [wordsGo, if_pos (by omega), if_pos ⟨h, h'⟩]
theorem wordsGo_cut {s : ByteArray} {i : Nat} (h : i ≤ s.size) (h' : i < s.size → isSp s i = true) (p : Nat) (t : List CellR) : wordsGo s i p t = wordsGo s (i + 1) (i + 1) (addW s t p i) := by
  rw [wordsGo, if_pos h, if_neg]
  rintro ⟨h1, h2⟩
  rw [h' h1] at h2; cases h2
theorem wordsGo_end {s : ByteArray} {i : Nat} (h : ¬ i ≤ s.size) (p : Nat) (t : List CellR) : wordsGo s i p t = t := by rw [wordsGo, if_neg h]
theorem byte_get (s : ByteArray) {i : Nat} (h : i < s.size) : s[i]'h = s.data.toList.getD i 0 := by
  have h' : i < s.data.toList.length := by rw [str_len]; exact h
  rw [List.getD_eq_getElem?_getD, List.getElem?_eq_getElem h']
  rfl
theorem byte_ne (s : ByteArray) {i : Nat} (h : i < s.size) : (((s[i]'h).toNat : Int) != 32) = !isSp s i := by
  rw [byte_get s h]
  unfold isSp
  generalize s.data.toList.getD i 0 = x
  rw [Bool.eq_iff_iff]
  simp only [bne_iff_ne, ne_eq, Bool.not_eq_true', beq_eq_false_iff_ne]
  refine not_congr ⟨fun e => ?_, fun e => by rw [e]; rfl⟩
  exact UInt8.toNat_inj.1 (by have h32 : (32 : UInt8).toNat = 32 := rfl; omega)
theorem extract_size {s : ByteArray} {p i : Nat} : (s.extract p i).size ≤ s.size := by rw [ByteArray.size_extract]; omega
set_option maxRecDepth 100000 in
set_option maxHeartbeats 3200000 in
theorem Words_any (s : ByteArray) (w : World) (hT : Tabs w) (hs : s.size * 32 ≤ 140737488355328) :
    Calls Tryd.prog 29 #[.string s] w fun e w' => (∃ v, e = .returned v ∧ OwnS (cellE s) 59 w w' v (wordsS s)) ∧ Old w w' := by
  go_enter Tryd.func29, Tryd.ntmps29
  go_wp2_with fail
  go_loopw [3, 4, 5] (fun x f j wr => ∃ (i p : Nat) (t : List CellR), i ≤ s.size + 1 ∧ p ≤ i ∧ t.length ≤ p ∧ f = .int .i64 p ∧ j = .int .i64 i ∧ OwnS (cellE s) 59 w wr x t ∧ Old w wr ∧ wordsGo s i p t = wordsS s) (fun _ _ j _ => s.size + 1 - (intOf j).toNat)
  case atStart => exact ⟨0, 0, [], Nat.zero_le _, Nat.zero_le _, Nat.zero_le _, rfl, rfl, OwnS.nil _ _ _ _, Old.refl _, rfl⟩
  case round =>
    obtain ⟨i, p, t, hi, hp, ht, rfl, rfl, hown, ho, hat⟩ := hrel
    have Hat := Lib.hid hat
    have Hown := Lib.hid hown
    clear hat hown
    obtain ⟨ax, cx, rfl, hc1, hc2⟩ := Hown.out.form
    by_cases hlt : i < s.size
    · have hlt' : (i : Int) < s.size := by omega
      have hle' : (i : Int) ≤ s.size := by omega
      have hb := byte_ne s hlt
      by_cases hsp : isSp s i = true
      · rw [hsp] at hb
        simp only [Bool.not_true] at hb
        have Hon := Lib.hid (wordsGo_cut (by omega) (fun _ => hsp) p t)
        clear hsp
        by_cases hpi : p < i
        · have hpi' : (p : Int) < i := by omega
          have HW := Lib.hid (fun V (o : Old w V) => Wide_any (s.extract p i) V (hT.old o) (by have := extract_size (s := s) (p := p) (i := i); omega))
          have hws := wideS_le (s.extract p i)
          have hes := extract_size (s := s) (p := p) (i := i)
          have Ha := Lib.hid (show addW s t p i = t ++ [⟨p, i, wideS (s.extract p i)⟩] from if_pos hpi)
          generalize wideS (s.extract p i) = W at *
          obtain ⟨i0, hi0, hz0, hz1, hz2⟩ := info_parts infoWord
          have hownr : ∀ V, Old wr V → V.ownsRow w.heap.size 59 3 (.slice ax t.length cx) t.length ((cellE s).all t) := fun V o => Hown.out.old o
          go_upto_region 8 with fail
          go_region_law (first
            | (refine step_append_lies _ (by rfl) _ _ _ (by rfl) w.heap.size 59 i0 _ 3 32 Tryd.underlying55 hi0 hz0 hz1 hz2 rfl (by omega) _ t.length ((cellE s).all t) (by rfl) (hownr _ (((Old.refl wr).drew.trans ho1).alloc _)) ⟨w1.heap.size, 0, none⟩ 1 1 ((cellE s).enc ⟨p, i, W⟩) (by rfl) (by rfl) (World.news_of_block (cs := ((cellE s).enc ⟨p, i, W⟩).toArray) (t := 59) (fr := (0, 0)) (heap_alloc_new w1 _)) ((cellE s).one ⟨p, i, W⟩) (by omega) (by simp [maxLen]; omega) (by omega) (by have h1 := ho.size; have h2 := ho1.size; simp [go_sem] at h2 ⊢; omega) (w1.heap.size + 1) (by simp) ?_; intro gg cap w4 hown4 hgr hat hltg)
            | (go_simp; go_at_call 22; refine (HW.out _ ho.drew).mono ?_; rintro e w1 ⟨rfl, ho1⟩))
          have ho4 : Old w w4 := ((ho.drew.trans ho1).alloc _).grown hgr (fun b hb => (World.ownsRow.lt Hown.out b hb).1)
          go_wp2_with fail
          go_roundw
          case rel => exact ⟨i + 1, i + 1, t ++ [⟨p, i, W⟩], by omega, by omega, by simp; omega, by go_num, by go_num, by unfold OwnS; rw [Enc.all_append, Enc.all_one, List.length_append]; exact hown4, ho4, by rw [← Hat.out, Hon.out, Ha.out]⟩
          case measure => simp [intOf]; omega
        · have hpi' : ¬ (p : Int) < i := by omega
          go_wp2_with fail
          go_roundw
          case rel => exact ⟨i + 1, i + 1, t, by omega, by omega, by omega, by go_num, by go_num, Hown.out, ho, by rw [← Hat.out, Hon.out]; unfold addW; rw [if_neg hpi]⟩
          case measure => simp [intOf]; omega
      · have hsp := Bool.eq_false_iff.2 hsp
        rw [hsp] at hb
        simp only [Bool.not_false] at hb
        have Hon := Lib.hid (wordsGo_in hlt hsp p t)
        clear hsp
        go_wp2_with fail
        go_roundw
        case rel => exact ⟨i + 1, p, t, by omega, by omega, by omega, rfl, by go_num, Hown.out, ho, by rw [← Hat.out, Hon.out]⟩
        case measure => simp [intOf]; omega
    · have hlt' : ¬ (i : Int) < s.size := by omega
      by_cases hle : i ≤ s.size
      · have hle' : (i : Int) ≤ s.size := by omega
        have Hon := Lib.hid (wordsGo_cut hle (fun h => absurd h hlt) p t)
        by_cases hpi : p < i
        · have hpi' : (p : Int) < i := by omega
          have HW := Lib.hid (fun V (o : Old w V) => Wide_any (s.extract p i) V (hT.old o) (by have := extract_size (s := s) (p := p) (i := i); omega))
          have hws := wideS_le (s.extract p i)
          have hes := extract_size (s := s) (p := p) (i := i)
          have Ha := Lib.hid (show addW s t p i = t ++ [⟨p, i, wideS (s.extract p i)⟩] from if_pos hpi)
          generalize wideS (s.extract p i) = W at *
          obtain ⟨i0, hi0, hz0, hz1, hz2⟩ := info_parts infoWord
          have hownr : ∀ V, Old wr V → V.ownsRow w.heap.size 59 3 (.slice ax t.length cx) t.length ((cellE s).all t) := fun V o => Hown.out.old o
          go_upto_region 8 with fail
          go_region_law (first
            | (refine step_append_lies _ (by rfl) _ _ _ (by rfl) w.heap.size 59 i0 _ 3 32 Tryd.underlying55 hi0 hz0 hz1 hz2 rfl (by omega) _ t.length ((cellE s).all t) (by rfl) (hownr _ (((Old.refl wr).drew.trans ho1).alloc _)) ⟨w1.heap.size, 0, none⟩ 1 1 ((cellE s).enc ⟨p, i, W⟩) (by rfl) (by rfl) (World.news_of_block (cs := ((cellE s).enc ⟨p, i, W⟩).toArray) (t := 59) (fr := (0, 0)) (heap_alloc_new w1 _)) ((cellE s).one ⟨p, i, W⟩) (by omega) (by simp [maxLen]; omega) (by omega) (by have h1 := ho.size; have h2 := ho1.size; simp [go_sem] at h2 ⊢; omega) (w1.heap.size + 1) (by simp) ?_; intro gg cap w4 hown4 hgr hat hltg)
            | (go_simp; go_at_call 22; refine (HW.out _ ho.drew).mono ?_; rintro e w1 ⟨rfl, ho1⟩))
          have ho4 : Old w w4 := ((ho.drew.trans ho1).alloc _).grown hgr (fun b hb => (World.ownsRow.lt Hown.out b hb).1)
          go_wp2_with fail
          go_roundw
          case rel => exact ⟨i + 1, i + 1, t ++ [⟨p, i, W⟩], by omega, by omega, by simp; omega, by go_num, by go_num, by unfold OwnS; rw [Enc.all_append, Enc.all_one, List.length_append]; exact hown4, ho4, by rw [← Hat.out, Hon.out, Ha.out]⟩
          case measure => simp [intOf]; omega
        · have hpi' : ¬ (p : Int) < i := by omega
          go_wp2_with fail
          go_roundw
          case rel => exact ⟨i + 1, i + 1, t, by omega, by omega, by omega, by go_num, by go_num, Hown.out, ho, by rw [← Hat.out, Hon.out]; unfold addW; rw [if_neg hpi]⟩
          case measure => simp [intOf]; omega
      · have hle' : ¬ (i : Int) ≤ s.size := by omega
        have Hend := Lib.hid (wordsGo_end hle p t)
        go_wp2_with fail
        go_ret
        exact ⟨⟨_, rfl, by rw [← Hat.out, Hend.out]; exact Hown.out⟩, ho⟩
end Go.Proofs.YtjkpmdckpfklgaaDoor
