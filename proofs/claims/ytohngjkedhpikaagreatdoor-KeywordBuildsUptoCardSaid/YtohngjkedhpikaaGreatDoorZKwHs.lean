/-
  THE DOCUMENT's Ints, at slices that are alike.
-/
import Derived.Test.YtohngjkedhpikaaGreatDoorZBase
import Derived.Test.YtohngjkedhpikaaGreatDoorProg
import Derived.Deep.DeepCutAuto
import Derived.Test.YtohngjkedhpikaaGreatDoorZTextCodesD
import Derived.Test.YtohngjkedhpikaaGreatDoorZBuilder
import Derived.BigQuiet
import Derived.Test.YtohngjkedhpikaaGreatDoorZKwQ
import Derived.Test.YtohngjkedhpikaaGreatDoorZKwRt
namespace Go.Proofs.YtohngjkedhpikaaGreatDoor
open Go.RowKit
attribute [local go_sem] Old.refl Old.alloc Old.drew Old.setCell OldW.old
set_option maxHeartbeats 1600000 in
theorem RInts_same (u v : Value) (l : List Int) (w : World) (hl : Ints w u l) (hm : Ints w v l) :
    Calls Tryz.prog 69 #[u, v] w fun e w' => e = .returned (.bool true) ∧ Old w w' := by
  obtain ⟨a1, c1, b1, off1, rfl, hc11, hc12, ha1, ht1⟩ := hl
  obtain ⟨a2, c2, b2, off2, rfl, hc21, hc22, ha2, ht2⟩ := hm
  have Ha1 := Lib.hid ha1
  have Ht1 := Lib.hid ht1
  have Ha2 := Lib.hid ha2
  have Ht2 := Lib.hid ht2
  clear ha1 ht1 ha2 ht2
  go_enter Tryz.func69, Tryz.ntmps69
  go_wp2_with fail
  go_loopw [13] (fun j wr => ∃ k : Nat, j = .int .i64 k ∧ k ≤ l.length ∧ Old w wr) (fun j _ => l.length - (intOf j).toNat)
  case atStart => exact ⟨0, rfl, Nat.zero_le _, Old.refl _⟩
  case round =>
    obtain ⟨k, rfl, hk, ho⟩ := hrel
    by_cases hlt : k < l.length
    · have hi : (k : Int) < l.length := by omega
      obtain rfl := Ha1.out (by omega)
      obtain rfl := Ha2.out (by omega)
      have k1 := fun V (o : Old wr V) => Ht1.out k hlt V (ho.trans o)
      have k2 := fun V (o : Old wr V) => Ht2.out k hlt V (ho.trans o)
      generalize ix l k = x at *
      go_upto_region 6 with fail
      refine wp_region_old (Old.refl _) (by kernel_rfl) (by kernel_rfl) ?_
      repeat (go_big_quiet_step (fail))
      refine wpQuiet_nil ?_
      rintro ⟨wq, hwq⟩
      dsimp only
      go_wp2_with fail
      go_roundw
      case rel => exact ⟨k + 1, by go_num, by omega, ho.trans hwq⟩
      case measure => simp [intOf]; omega
    · obtain rfl : k = l.length := by omega
      have hi : ¬ (l.length : Int) < l.length := by omega
      go_wp2_with fail
      go_ret
      exact ⟨rfl, ho⟩
end Go.Proofs.YtohngjkedhpikaaGreatDoor
/-
  KEYWORD, QT: the document's Ints and Texts, at slices that are alike.
-/
namespace Go.Proofs.YtohngjkedhpikaaGreatDoor
open Go.RowKit
attribute [local go_sem] Old.refl Old.alloc Old.drew Old.setCell OldW.old

set_option maxHeartbeats 1600000 in
theorem RTexts_same (u v : Value) (l : List ByteArray) (w : World) (hl : Txts w u l) (hm : Txts w v l) :
    Calls Tryz.prog 56 #[u, v] w fun e w' => e = .returned (.bool true) ∧ Old w w' := by
  obtain ⟨a1, c1, b1, off1, rfl, hc11, hc12, ha1, ht1⟩ := hl
  obtain ⟨a2, c2, b2, off2, rfl, hc21, hc22, ha2, ht2⟩ := hm
  have Ha1 := Lib.hid ha1
  have Ht1 := Lib.hid ht1
  have Ha2 := Lib.hid ha2
  have Ht2 := Lib.hid ht2
  clear ha1 ht1 ha2 ht2
  go_enter Tryz.func56, Tryz.ntmps56
  go_wp2_with fail
  go_loopw [13] (fun j wr => ∃ k : Nat, j = .int .i64 k ∧ k ≤ l.length ∧ Old w wr) (fun j _ => l.length - (intOf j).toNat)
  case atStart => exact ⟨0, rfl, Nat.zero_le _, Old.refl _⟩
  case round =>
    obtain ⟨k, rfl, hk, ho⟩ := hrel
    by_cases hlt : k < l.length
    · have hi : (k : Int) < l.length := by omega
      obtain rfl := Ha1.out (by omega)
      obtain rfl := Ha2.out (by omega)
      have k1 := fun V (o : Old wr V) => Ht1.out k hlt V (ho.trans o)
      have k2 := fun V (o : Old wr V) => Ht2.out k hlt V (ho.trans o)
      generalize l.getD k ⟨#[]⟩ = x at *
      have hb : (x.toList == x.toList) = true := by rw [str_beq]; simp
      have hb' : (x.toList != x.toList) = false := by unfold bne; rw [hb]; rfl
      go_upto_region 6 with fail
      refine wp_region_old (Old.refl _) (by kernel_rfl) (by kernel_rfl) ?_
      repeat (go_big_quiet_step (fail))
      refine wpQuiet_nil ?_
      rintro ⟨wq, hwq⟩
      dsimp only
      go_wp2_with fail
      go_roundw
      case rel => exact ⟨k + 1, by go_num, by omega, ho.trans hwq⟩
      case measure => simp [intOf]; omega
    · obtain rfl : k = l.length := by omega
      have hi : ¬ (l.length : Int) < l.length := by omega
      go_wp2_with fail
      go_ret
      exact ⟨rfl, ho⟩
theorem RTexts9_same (u v : Value) (l : List ByteArray) (w : World) (hl : Txts w u l) (hm : Txts w v l) :
    Calls Tryz.prog 17 #[u, v] w fun e w' => e = .returned (.bool true) ∧ Old w w' := by
  have HC := Lib.hid (RTexts_same u v l w hl hm)
  go_enter Tryz.func17, Tryz.ntmps17
  go_wp2_with fail
  refine HC.out.mono ?_
  rintro e w1 ⟨rfl, o1⟩
  go_wp2_with fail
  go_ret
  exact ⟨rfl, o1⟩
theorem RInts9_same (u v : Value) (l : List Int) (w : World) (hl : Ints w u l) (hm : Ints w v l) :
    Calls Tryz.prog 28 #[u, v] w fun e w' => e = .returned (.bool true) ∧ Old w w' := by
  have HC := Lib.hid (RInts_same u v l w hl hm)
  go_enter Tryz.func28, Tryz.ntmps28
  go_wp2_with fail
  refine HC.out.mono ?_
  rintro e w1 ⟨rfl, o1⟩
  go_wp2_with fail
  go_ret
  exact ⟨rfl, o1⟩
end Go.Proofs.YtohngjkedhpikaaGreatDoor
/-
  KEYWORD, HS: the statements' headings (alike), the document's Same.
-/
namespace Go.Proofs.YtohngjkedhpikaaGreatDoor
open Go.RowKit
attribute [local go_sem] Old.refl Old.alloc Old.drew Old.setCell OldW.old

theorem Hds.open {w : World} {a : Option Addr} {n cap : Nat} {H : List Hd} (h : Recs hdE w (.slice a n cap) H) : ∃ b off, (0 < H.length → a = some ⟨b, off, none⟩) ∧ ∀ (i : Nat) (x : Hd), H[i]? = some x → ∀ V, Old w V →
    V.cell? ⟨b, off + i * 2, none⟩ = some (.string x.name) ∧ V.cell? ⟨b, off + i * 2 + 1, none⟩ = some (.int .i64 x.at') := by
  obtain ⟨a', cap', b', off', e, h1, h2, h3, h4⟩ := h
  obtain ⟨rfl, e2, _⟩ := Value.slice.inj e
  refine ⟨b', off', h3, fun i x hx V o => ⟨?_, ?_⟩⟩
  · exact h4 (i * 2) _ (by have := Enc.all_at (c := hdE) (j := 0) hx rfl; exact this) V o
  · exact h4 (i * 2 + 1) _ (by have := Enc.all_at (c := hdE) (j := 1) hx rfl; exact this) V o
set_option maxRecDepth 100000 in
set_option maxHeartbeats 1600000 in
theorem headings_same (u v : Value) (H : List Hd) (w : World) (hu : Recs hdE w u H) (hv : Recs hdE w v H) :
    Calls Tryz.prog 26 #[u, v] w fun e w' => e = .returned (.bool true) ∧ Old w w' := by
  obtain ⟨a, c, rfl, h1, h2⟩ := hu.form
  obtain ⟨a', c', rfl, h1', h2'⟩ := hv.form
  obtain ⟨b, o, ha, hat⟩ := Hds.open hu
  obtain ⟨b', o', ha', hat'⟩ := Hds.open hv
  have Ha := Lib.hid ha
  have Hat := Lib.hid hat
  have Ha' := Lib.hid ha'
  have Hat' := Lib.hid hat'
  clear hu hv ha hat ha' hat'
  go_enter Tryz.func26, Tryz.ntmps26
  go_upto_region 4 with fail
  go_loopw [13] (fun j wx => ∃ i : Nat, j = .int .i64 i ∧ i ≤ H.length ∧ Old w wx) (fun j _ => H.length - (intOf j).toNat)
  case atStart => exact ⟨0, rfl, Nat.zero_le _, Old.refl _⟩
  case round =>
    obtain ⟨i, rfl, hi, ho⟩ := hrel
    by_cases hlt : i < H.length
    · have hi1 : (i : Int) < H.length := by omega
      obtain ⟨x, hx⟩ : ∃ x, H[i]? = some x := ⟨_, List.getElem?_eq_getElem hlt⟩
      obtain rfl := Ha.out (by omega)
      obtain rfl := Ha'.out (by omega)
      have c0 : ∀ V, Old wr V → V.cell? ⟨b, o + i * 2, none⟩ = some (.string x.name) := fun V k => (Hat.out i x hx V (ho.trans k)).1
      have c1 : ∀ V, Old wr V → V.cell? ⟨b, o + i * 2 + 1, none⟩ = some (.int .i64 x.at') := fun V k => (Hat.out i x hx V (ho.trans k)).2
      have d0 : ∀ V, Old wr V → V.cell? ⟨b', o' + i * 2, none⟩ = some (.string x.name) := fun V k => (Hat'.out i x hx V (ho.trans k)).1
      have d1 : ∀ V, Old wr V → V.cell? ⟨b', o' + i * 2 + 1, none⟩ = some (.int .i64 x.at') := fun V k => (Hat'.out i x hx V (ho.trans k)).2
      clear hx
      have hs1 := str_eqt (rfl : x.name = x.name)
      have hs2 := str_bnn (rfl : x.name = x.name)
      go_upto_region 6 with fail
      refine wp_region_old (Old.refl _) (by kernel_rfl) (by kernel_rfl) ?_
      repeat (go_big_quiet_step (fail))
      refine wpQuiet_nil ?_
      rintro ⟨wq, hq⟩
      dsimp only
      go_wp2_with fail
      go_roundw
      case rel => exact ⟨i + 1, by go_num, by omega, ho.trans hq⟩
      case measure => simp [intOf]; omega
    · obtain rfl : i = H.length := by omega
      have hi1 : ¬ (H.length : Int) < H.length := by omega
      go_wp2_with fail
      go_ret
      exact ⟨rfl, ho⟩
set_option maxRecDepth 100000 in
set_option maxHeartbeats 3200000 in
theorem RSame_any (u v : Value) (l : List En) (w : World) (hu : Ents w u l) (hv : Ents w v l) :
    Calls Tryz.prog 35 #[u, v] w fun e w' => e = .returned (.bool true) ∧ Old w w' := by
  obtain ⟨a, c, rfl, h1, h2⟩ := Seqs.form hu
  obtain ⟨a', c', rfl, h1', h2'⟩ := Seqs.form hv
  obtain ⟨b, o, ha, hat⟩ := Ents.open hu
  obtain ⟨b', o', ha', hat'⟩ := Ents.open hv
  have Ha := Lib.hid ha
  have Hat := Lib.hid hat
  have Ha' := Lib.hid ha'
  have Hat' := Lib.hid hat'
  clear hu hv ha hat ha' hat'
  go_enter Tryz.func35, Tryz.ntmps35
  go_upto_region 4 with fail
  go_loopw [13] (fun j wx => ∃ i : Nat, j = .int .i64 i ∧ i ≤ l.length ∧ Old w wx) (fun j _ => l.length - (intOf j).toNat)
  case atStart => exact ⟨0, rfl, Nat.zero_le _, Old.refl _⟩
  case round =>
    obtain ⟨i, rfl, hi, ho⟩ := hrel
    by_cases hlt : i < l.length
    · have hi1 : (i : Int) < l.length := by omega
      obtain ⟨e, he⟩ : ∃ e, l[i]? = some e := ⟨_, List.getElem?_eq_getElem hlt⟩
      obtain rfl := Ha.out (by omega)
      obtain rfl := Ha'.out (by omega)
      obtain ⟨x2, y2, x3, y3, hcs, hIs, hTs⟩ := Hat.out i e he
      obtain ⟨z2, k2, z3, k3, hcs', hIs', hTs'⟩ := Hat'.out i e he
      have e0 : ∀ V, Old wr V → V.cell? ⟨b, o + i * 4, none⟩ = some (.string e.term) := fun V k => (hcs V (ho.trans k)).1
      have e1 : ∀ V, Old wr V → V.cell? ⟨b, o + i * 4 + 1, none⟩ = some (.string e.sub) := fun V k => (hcs V (ho.trans k)).2.1
      have e2 : ∀ V, Old wr V → V.cell? ⟨b, o + i * 4 + 2, none⟩ = some (.slice x2 e.topics.length y2) := fun V k => (hcs V (ho.trans k)).2.2.1
      have e3 : ∀ V, Old wr V → V.cell? ⟨b, o + i * 4 + 3, none⟩ = some (.slice x3 e.sees.length y3) := fun V k => (hcs V (ho.trans k)).2.2.2
      have f0 : ∀ V, Old wr V → V.cell? ⟨b', o' + i * 4, none⟩ = some (.string e.term) := fun V k => (hcs' V (ho.trans k)).1
      have f1 : ∀ V, Old wr V → V.cell? ⟨b', o' + i * 4 + 1, none⟩ = some (.string e.sub) := fun V k => (hcs' V (ho.trans k)).2.1
      have f2 : ∀ V, Old wr V → V.cell? ⟨b', o' + i * 4 + 2, none⟩ = some (.slice z2 e.topics.length k2) := fun V k => (hcs' V (ho.trans k)).2.2.1
      have f3 : ∀ V, Old wr V → V.cell? ⟨b', o' + i * 4 + 3, none⟩ = some (.slice z3 e.sees.length k3) := fun V k => (hcs' V (ho.trans k)).2.2.2
      have HTx := Lib.hid (fun V (k : Old wr V) => RTexts9_same (.slice x3 e.sees.length y3) (.slice z3 e.sees.length k3) e.sees V (hTs.old (ho.trans k)) (hTs'.old (ho.trans k)))
      have HIx := Lib.hid (fun V (k : Old wr V) => RInts9_same (.slice x2 e.topics.length y2) (.slice z2 e.topics.length k2) e.topics V (hIs.old (ho.trans k)) (hIs'.old (ho.trans k)))
      have hs1 := str_eqt (rfl : e.term = e.term)
      have hs2 := str_eqt (rfl : e.sub = e.sub)
      have hs3 := str_bnn (rfl : e.term = e.term)
      have hs4 := str_bnn (rfl : e.sub = e.sub)
      clear hcs hcs' hIs hIs' hTs hTs' he
      go_upto_region 6 with fail
      refine wp_region_old (Old.refl _) (by kernel_rfl) (by kernel_rfl) ?_
      repeat (go_big_quiet_step (first | with_reducible exact Calls.in_old (HTx.out _ (OldW.old _)) | with_reducible exact Calls.in_old (HIx.out _ (OldW.old _))))
      refine wpQuiet_nil ?_
      rintro ⟨wq, hq⟩
      dsimp only
      clear e0 e1 e2 e3 f0 f1 f2 f3 hs1 hs2 hs3 hs4 HTx HIx
      go_wp2_with fail
      go_roundw
      case rel => exact ⟨i + 1, by go_num, by omega, ho.trans hq⟩
      case measure => simp [intOf]; omega
    · obtain rfl : i = l.length := by omega
      have hi1 : ¬ (l.length : Int) < l.length := by omega
      go_wp2_with fail
      go_ret
      exact ⟨rfl, ho⟩
end Go.Proofs.YtohngjkedhpikaaGreatDoor
