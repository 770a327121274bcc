/-
  The box of a fault; a fault at a place.
-/
import Derived.Test.YtohngjkedhpikaaGreatDoorZKwRu
import Derived.Test.YtohngjkedhpikaaGreatDoorZKwRt
import Derived.Test.YtohngjkedhpikaaGreatDoorZKwQ
namespace Go.Proofs.YtohngjkedhpikaaGreatDoor
open Go.RowKit
attribute [local go_sem] Old.refl Old.alloc Old.drew Old.setCell OldW.old

/-- the box of a fault -/
structure FBox (w : World) (B : Nat) : Prop where
  c0 : ∀ V, Old w V → V.cell? ⟨B, 0, none⟩ = some (.int .i64 0)
  c1 : ∀ V, Old w V → V.cell? ⟨B, 1, none⟩ = some (.int .i64 0)
  c2 : ∀ V, Old w V → V.cell? ⟨B, 2, none⟩ = some (.int .i64 0)
  c3 : ∀ V, Old w V → V.cell? ⟨B, 3, none⟩ = some (.int .i64 0)
  c4 : ∀ V, Old w V → V.cell? ⟨B, 4, none⟩ = some (.string ⟨#[]⟩)
  c5 : ∀ V, Old w V → V.cell? ⟨B, 5, none⟩ = some (.slice none 0 0)
  fz : ∀ V, Old w V → ∀ j, V.frozen? ⟨B, j, none⟩ = false
theorem FBox.new (w : World) : FBox (w.alloc (.cells #[.int .i64 0, .int .i64 0, .int .i64 0, .int .i64 0, .string ⟨#[]⟩, .slice none 0 0] 72)) w.heap.size :=
  ⟨later (by simp [go_sem]), later (by simp [go_sem]), later (by simp [go_sem]), later (by simp [go_sem]), later (by simp [go_sem]), later (by simp [go_sem]), fun V o j => by rw [frozen_old o (by simp)]; simp [go_sem]⟩
def zeroF : Flt := ⟨0, 0, 0, 0, ⟨#[]⟩⟩
theorem old_six {w V : World} {B : Nat} {v0 v1 v2 v3 v4 v5 : Value} (o : Old w V) (h : w.heap.size ≤ B) : Old w ((((((V.setCell ⟨B, 0, none⟩ v0).setCell ⟨B, 1, none⟩ v1).setCell ⟨B, 2, none⟩ v2).setCell ⟨B, 3, none⟩ v3).setCell ⟨B, 4, none⟩ v4).setCell ⟨B, 5, none⟩ v5) :=
  (((((o.setCell (p := ⟨B, 0, none⟩) h _).setCell (p := ⟨B, 1, none⟩) h _).setCell (p := ⟨B, 2, none⟩) h _).setCell (p := ⟨B, 3, none⟩) h _).setCell (p := ⟨B, 4, none⟩) h _).setCell (p := ⟨B, 5, none⟩) h _
set_option maxRecDepth 100000 in
set_option maxHeartbeats 1600000 in
theorem At_any (code src line col : Int) (word : ByteArray) (w : World) :
    Calls Tryz.prog 75 #[.int .i64 code, .int .i64 src, .int .i64 line, .int .i64 col, .string word] w fun e w' => e = .returned (.agg (fltC ⟨code, src, line, col, word⟩).toArray) ∧ Old w w' := by
  go_enter Tryz.func75, Tryz.ntmps75
  go_upto_region 1 with fail
  have ho : Old w (w.alloc (.cells #[.int .i64 0, .int .i64 0, .int .i64 0, .int .i64 0, .string ⟨#[]⟩, .slice none 0 0] 72)) := (Old.refl w).alloc _
  have c0 : (w.alloc (.cells #[.int .i64 0, .int .i64 0, .int .i64 0, .int .i64 0, .string ⟨#[]⟩, .slice none 0 0] 72)).cell? ⟨w.heap.size, 0, none⟩ = some (.int .i64 0) := by simp [go_sem]
  have c1 : (w.alloc (.cells #[.int .i64 0, .int .i64 0, .int .i64 0, .int .i64 0, .string ⟨#[]⟩, .slice none 0 0] 72)).cell? ⟨w.heap.size, 1, none⟩ = some (.int .i64 0) := by simp [go_sem]
  have c2 : (w.alloc (.cells #[.int .i64 0, .int .i64 0, .int .i64 0, .int .i64 0, .string ⟨#[]⟩, .slice none 0 0] 72)).cell? ⟨w.heap.size, 2, none⟩ = some (.int .i64 0) := by simp [go_sem]
  have c3 : (w.alloc (.cells #[.int .i64 0, .int .i64 0, .int .i64 0, .int .i64 0, .string ⟨#[]⟩, .slice none 0 0] 72)).cell? ⟨w.heap.size, 3, none⟩ = some (.int .i64 0) := by simp [go_sem]
  have c4 : (w.alloc (.cells #[.int .i64 0, .int .i64 0, .int .i64 0, .int .i64 0, .string ⟨#[]⟩, .slice none 0 0] 72)).cell? ⟨w.heap.size, 4, none⟩ = some (.string ⟨#[]⟩) := by simp [go_sem]
  have c5 : (w.alloc (.cells #[.int .i64 0, .int .i64 0, .int .i64 0, .int .i64 0, .string ⟨#[]⟩, .slice none 0 0] 72)).cell? ⟨w.heap.size, 5, none⟩ = some (.slice none 0 0) := by simp [go_sem]
  have hf : ∀ j, (w.alloc (.cells #[.int .i64 0, .int .i64 0, .int .i64 0, .int .i64 0, .string ⟨#[]⟩, .slice none 0 0] 72)).frozen? ⟨w.heap.size, j, none⟩ = false := fun j => by simp [go_sem]
  generalize w.alloc (.cells #[.int .i64 0, .int .i64 0, .int .i64 0, .int .i64 0, .string ⟨#[]⟩, .slice none 0 0] 72) = w1 at *
  go_wp2_with fail
  (try simp only [Exit.inBlock, Exit.then])
  refine bodyPost_ret (v := .agg (fltC ⟨code, src, line, col, word⟩).toArray) (by simp [results, Tryz.results75, go_sem, c0, c1, c2, c3, c4, c5, fltC]) rfl ⟨rfl, ?_⟩
  exact (((((ho.setCell (Nat.le_refl _) _).setCell (Nat.le_refl _) _).setCell (Nat.le_refl _) _).setCell (Nat.le_refl _) _).setCell (Nat.le_refl _) _).setCell (Nat.le_refl _) _
end Go.Proofs.YtohngjkedhpikaaGreatDoor
/-
  KEYWORD, RY: the document's entries: the first mention that may not be.
-/
namespace Go.Proofs.YtohngjkedhpikaaGreatDoor
open Go.RowKit Go.Maps
attribute [local go_sem] Old.refl Old.alloc Old.drew Old.setCell OldW.old

theorem ByteArray_eq_of9 {a b : ByteArray} (h : (a.toList == b.toList) = true) : a = b := by
  rw [str_beq] at h
  exact of_decide_eq_true h
theorem first_pre {α β : Type} {g : α → Option β} {P M : List α} {m : α} {f : β} (hp : P ++ [m] <+: M) (h0 : ∀ x ∈ P, g x = none) (hf : g m = some f) : M.findSome? g = some f := by
  obtain ⟨R, rfl⟩ := hp
  rw [List.append_assoc, List.findSome?_append, List.findSome?_eq_none_iff.2 h0]
  simp [hf]
theorem pre_keys {k i : Int} {t : Tk} {P M : List Mn} (h : P ++ mnT k i t <+: M) {r : Nat} {x : Kq} (hx : t.keys[r]? = some x) : P ++ (t.keys.take r).map (mnK k i) ++ [mnK k i x] <+: M := by
  refine List.IsPrefix.trans ?_ h
  rw [List.append_assoc]
  refine List.prefix_append_right_inj _ |>.2 ?_
  unfold mnT
  refine List.IsPrefix.trans ?_ (List.prefix_append _ _)
  refine ⟨(t.keys.drop (r + 1)).map (mnK k i), ?_⟩
  have hd : t.keys.drop r = x :: t.keys.drop (r + 1) := by
    obtain ⟨hr, he⟩ := List.getElem?_eq_some_iff.1 hx
    rw [List.drop_eq_getElem_cons hr, he]
  conv => rhs; rw [← List.take_append_drop r t.keys, hd]
  simp
theorem pre_sees {k i : Int} {t : Tk} {P M : List Mn} (h : P ++ mnT k i t <+: M) {r : Nat} {x : Sq} (hx : t.sees[r]? = some x) : P ++ t.keys.map (mnK k i) ++ (t.sees.take r).map (mnS k i) ++ [mnS k i x] <+: M := by
  refine List.IsPrefix.trans ?_ h
  rw [List.append_assoc, List.append_assoc]
  refine List.prefix_append_right_inj _ |>.2 ?_
  unfold mnT
  refine List.prefix_append_right_inj _ |>.2 ?_
  refine ⟨(t.sees.drop (r + 1)).map (mnS k i), ?_⟩
  have hd : t.sees.drop r = x :: t.sees.drop (r + 1) := by
    obtain ⟨hr, he⟩ := List.getElem?_eq_some_iff.1 hx
    rw [List.drop_eq_getElem_cons hr, he]
  conv => rhs; rw [← List.take_append_drop r t.sees, hd]
  simp
theorem none_snoc {α β : Type} {g : α → Option β} {P : List α} {m : α} (h : ∀ x ∈ P, g x = none) (hm : g m = none) : ∀ x ∈ P ++ [m], g x = none := fun x hx => by
  rcases List.mem_append.1 hx with h' | h'
  · exact h x h'
  · rw [List.mem_singleton.1 h']; exact hm
set_option maxRecDepth 100000 in
set_option maxHeartbeats 6400000 in
theorem terms_any (v : Value) (S : List (List Tk)) (w : World) (hv : Srk w v S) (hM : (mns S S.length).length ≤ 1000) (hz : ∀ m ∈ mns S S.length, MnZ m) :
    Calls Tryz.prog 77 #[v] w fun e w' => e = .returned (.agg (fltC (((mns S S.length).findSome? termF).getD zeroF)).toArray) ∧ Old w w' := by
  obtain ⟨sa, scap, rfl, hsc1, hsc2⟩ := Seqs.form hv
  have Hmem := Lib.hid (fun (a b : Nat) (T : List Tk) (t : Tk) (h1 : S[a]? = some T) (h2 : T[b]? = some t) (m : Mn) (hm : m ∈ mnT ((totK S a + b : Nat) : Int) a t) => mem_mns.2 ⟨a, b, T, t, (List.getElem?_eq_some_iff.1 h1).1, h1, h2, hm⟩)
  have Hroom := Lib.hid (fun (a b : Nat) (T : List Tk) (t : Tk) (h1 : S[a]? = some T) (h2 : T[b]? = some t) => mns_room h1 h2)
  have Hz := Lib.hid hz
  have Hall : Hid ((∀ m ∈ mns S S.length, termF m = none) → (mns S S.length).findSome? termF = none) := Lib.hid fun h => List.findSome?_eq_none_iff.2 h
  have Hpre := Lib.hid (fun (a b : Nat) (T : List Tk) (t : Tk) (h1 : S[a]? = some T) (h2 : T[b]? = some t) => show mns S a ++ mnsT (totK S a) a T b ++ mnT ((totK S a + b : Nat) : Int) a t <+: mns S S.length from by
    rw [List.append_assoc, ← mnsT_succ h2]
    refine List.IsPrefix.trans ?_ (mns_pre S (List.getElem?_eq_some_iff.1 h1).1)
    rw [mns_succ h1]
    exact (List.prefix_append_right_inj _).2 (mnsT_pre _ _ T (List.getElem?_eq_some_iff.1 h2).1))
  obtain ⟨bs, os, has, hats⟩ := Srk.open hv
  have Has := Lib.hid has
  have Hats := Lib.hid hats
  clear hv has hats hz
  go_enter Tryz.func77, Tryz.ntmps77
  go_upto_region 1 with fail
  have hwz : Old w (w.alloc (.cells #[.int .i64 0, .int .i64 0, .int .i64 0, .int .i64 0, .string ⟨#[]⟩, .slice none 0 0] 72)) := (Old.refl w).alloc _
  have HX := Lib.hid (FBox.new w)
  generalize w.alloc (.cells #[.int .i64 0, .int .i64 0, .int .i64 0, .int .i64 0, .string ⟨#[]⟩, .slice none 0 0] 72) = wz at *
  generalize hBB : w.heap.size = B at *
  have hBw : w.heap.size ≤ B := Nat.le_of_eq hBB
  go_wp2_with fail
  go_loopw [13] (fun j wx => ∃ (i : Nat), j = .int .i64 i ∧ i ≤ S.length ∧ (∀ m ∈ mns S i, termF m = none) ∧ Old wz wx) (fun j _ => S.length - (intOf j).toNat)
  case atStart => exact ⟨0, rfl, Nat.zero_le _, (fun m hm => by cases hm), Old.refl _⟩
  case round =>
    obtain ⟨i, rfl, hi, hA, ho⟩ := hrel
    have HA := Lib.hid hA
    clear hA
    by_cases hlt : i < S.length
    · have hi1 : (i : Int) < S.length := by omega
      obtain ⟨T, hTi⟩ : ∃ T, S[i]? = some T := ⟨_, List.getElem?_eq_getElem hlt⟩
      obtain ⟨a0, n0, c0', ax, cx, hcs, hTs, k1, k2⟩ := Hats.out i T hTi
      obtain rfl := Has.out (by omega)
      have c0 : ∀ V, Old wr V → V.cell? ⟨bs, os + i * 2, none⟩ = some (.slice a0 n0 c0') := fun V o => (hcs V (hwz.trans (ho.trans o))).1
      have c1 : ∀ V, Old wr V → V.cell? ⟨bs, os + i * 2 + 1, none⟩ = some (.slice ax T.length cx) := fun V o => (hcs V (hwz.trans (ho.trans o))).2
      obtain ⟨bt, ot, hat, hatt⟩ := Trs.open hTs
      have HTi := Lib.hid hTi
      have Hat := Lib.hid hat
      have Hatt := Lib.hid hatt
      have Hsuc : Hid (mns S (i + 1) = mns S i ++ mnsT (totK S i) i T T.length) := Lib.hid (mns_succ hTi)
      clear hcs hTs hat hatt hTi
      go_upto_region 4 with fail
      have d1 := later (show (wr.alloc (.cells #[.slice a0 n0 c0', .slice ax T.length cx] 33)).cell? ⟨wr.heap.size, 1, none⟩ = some (.slice ax T.length cx) by simp [go_sem])
      have ho1 := ho.alloc (.cells #[.slice a0 n0 c0', .slice ax T.length cx] 33)
      generalize wr.alloc (.cells #[.slice a0 n0 c0', .slice ax T.length cx] 33) = w1 at *
      generalize wr.heap.size = g1 at *
      clear c0 c1 ho
      go_wp2_with fail
      go_loopw [21] (fun j wx => ∃ (q : Nat), j = .int .i64 q ∧ q ≤ T.length ∧ (∀ m ∈ mns S i ++ mnsT (totK S i) i T q, termF m = none) ∧ Old wz wx) (fun j _ => T.length - (intOf j).toNat)
      case atStart => exact ⟨0, rfl, Nat.zero_le _, by rw [mnsT, List.append_nil]; exact HA.out, ho1⟩
      case round =>
        clear d1 HA ho1
        obtain ⟨q, rfl, hq, hA, ho⟩ := hrel
        have HA := Lib.hid hA
        clear hA
        by_cases hlt2 : q < T.length
        · have hq1 : (q : Int) < T.length := by omega
          obtain ⟨t, ht⟩ : ∃ t, T[q]? = some t := ⟨_, List.getElem?_eq_getElem hlt2⟩
          obtain ⟨kd, nm, ti, lv, a4, c4', a5, c5', a6, n6, c6', ln, hcs, hK4, hK5⟩ := Hatt.out q t ht
          obtain rfl := Hat.out (by omega)
          have g0 : ∀ V, Old wr V → V.cell? ⟨bt, ot + q * 8, none⟩ = some (.int .i64 kd) := fun V o => (hcs V (hwz.trans (ho.trans o))).1
          have g1' : ∀ V, Old wr V → V.cell? ⟨bt, ot + q * 8 + 1, none⟩ = some (.string nm) := fun V o => (hcs V (hwz.trans (ho.trans o))).2.1
          have g2 : ∀ V, Old wr V → V.cell? ⟨bt, ot + q * 8 + 2, none⟩ = some (.string ti) := fun V o => (hcs V (hwz.trans (ho.trans o))).2.2.1
          have g3 : ∀ V, Old wr V → V.cell? ⟨bt, ot + q * 8 + 3, none⟩ = some (.int .i64 lv) := fun V o => (hcs V (hwz.trans (ho.trans o))).2.2.2.1
          have g4 : ∀ V, Old wr V → V.cell? ⟨bt, ot + q * 8 + 4, none⟩ = some (.slice a4 t.keys.length c4') := fun V o => (hcs V (hwz.trans (ho.trans o))).2.2.2.2.1
          have g5 : ∀ V, Old wr V → V.cell? ⟨bt, ot + q * 8 + 5, none⟩ = some (.slice a5 t.sees.length c5') := fun V o => (hcs V (hwz.trans (ho.trans o))).2.2.2.2.2.1
          have g6 : ∀ V, Old wr V → V.cell? ⟨bt, ot + q * 8 + 6, none⟩ = some (.slice a6 n6 c6') := fun V o => (hcs V (hwz.trans (ho.trans o))).2.2.2.2.2.2.1
          have g7 : ∀ V, Old wr V → V.cell? ⟨bt, ot + q * 8 + 7, none⟩ = some (.int .i64 ln) := fun V o => (hcs V (hwz.trans (ho.trans o))).2.2.2.2.2.2.2
          obtain ⟨b4, o4, ha4, h4⟩ := Kqs.open hK4
          obtain ⟨b5, o5, ha5, h5⟩ := Sqs'.open hK5
          have Ha4 := Lib.hid ha4
          have H4 := Lib.hid h4
          have Ha5 := Lib.hid ha5
          have H5 := Lib.hid h5
          have hroom : t.keys.length ≤ 1000 ∧ t.sees.length ≤ 1000 := by have := Hroom.out i q T t HTi.out ht; omega
          obtain ⟨hrk, hrs⟩ := hroom
          obtain ⟨kq, hkq⟩ : ∃ kq : Int, ((totK S i + q : Nat) : Int) = kq := ⟨_, rfl⟩
          have HTs : Hid (mns S i ++ mnsT (totK S i) i T (q + 1) = (mns S i ++ mnsT (totK S i) i T q) ++ mnT kq i t) := Lib.hid (by rw [mnsT_succ ht, List.append_assoc, hkq])
          have HMt := Lib.hid (fun (m : Mn) (hm : m ∈ mnT kq i t) => Hz.out m (Hmem.out i q T t HTi.out ht m (by rw [hkq]; exact hm)))
          have HPr : Hid (mns S i ++ mnsT (totK S i) i T q ++ mnT kq i t <+: mns S S.length) := Lib.hid (by rw [← hkq]; exact Hpre.out i q T t HTi.out ht)
          clear hcs hK4 hK5 ha4 h4 ha5 h5 ht hkq
          go_upto_region 7 with fail
          have C4 := later (show (wr.alloc (.cells #[.int .i64 kd, .string nm, .string ti, .int .i64 lv, .slice a4 t.keys.length c4', .slice a5 t.sees.length c5', .slice a6 n6 c6', .int .i64 ln] 38)).cell? ⟨wr.heap.size, 4, none⟩ = some (.slice a4 t.keys.length c4') by simp [go_sem])
          have K5 := Lib.hid (later (show (wr.alloc (.cells #[.int .i64 kd, .string nm, .string ti, .int .i64 lv, .slice a4 t.keys.length c4', .slice a5 t.sees.length c5', .slice a6 n6 c6', .int .i64 ln] 38)).cell? ⟨wr.heap.size, 5, none⟩ = some (.slice a5 t.sees.length c5') by simp [go_sem]))
          have hoA := ho.alloc (.cells #[.int .i64 kd, .string nm, .string ti, .int .i64 lv, .slice a4 t.keys.length c4', .slice a5 t.sees.length c5', .slice a6 n6 c6', .int .i64 ln] 38)
          generalize wr.alloc (.cells #[.int .i64 kd, .string nm, .string ti, .int .i64 lv, .slice a4 t.keys.length c4', .slice a5 t.sees.length c5', .slice a6 n6 c6', .int .i64 ln] 38) = wA at *
          generalize wr.heap.size = g8 at *
          clear g0 g1' g2 g3 g4 g5 g6 g7 ho
          generalize hP : mns S i ++ mnsT (totK S i) i T q = P at *
          clear hP
          go_wp2_with fail
          clear C4
          go_loopw [28] (fun j wx => ∃ (r : Nat), j = .int .i64 r ∧ r ≤ t.keys.length ∧ (∀ m ∈ P ++ (t.keys.take r).map (mnK kq i), termF m = none) ∧ Old wA wx) (fun j _ => t.keys.length - (intOf j).toNat)
          case atStart => exact ⟨0, rfl, Nat.zero_le _, by rw [List.take_zero, List.map_nil, List.append_nil]; exact HA.out, Old.refl _⟩
          case round =>
            clear HA
            obtain ⟨r, rfl, hr, hA, hoK⟩ := hrel
            have HA := Lib.hid hA
            clear hA
            by_cases hlt3 : r < t.keys.length
            · have hr1 : (r : Int) < t.keys.length := by omega
              obtain ⟨x, hx⟩ : ∃ x, t.keys[r]? = some x := ⟨_, List.getElem?_eq_getElem hlt3⟩
              obtain rfl := Ha4.out (by omega)
              have ho := hoA.trans hoK
              have e0 : ∀ V, Old wr V → V.cell? ⟨b4, o4 + r * 3, none⟩ = some (.string x.term) := fun V o => (H4.out r x hx V (hwz.trans (ho.trans o))).1
              have e1 : ∀ V, Old wr V → V.cell? ⟨b4, o4 + r * 3 + 1, none⟩ = some (.string x.sub) := fun V o => (H4.out r x hx V (hwz.trans (ho.trans o))).2.1
              have e2 : ∀ V, Old wr V → V.cell? ⟨b4, o4 + r * 3 + 2, none⟩ = some (.int .i64 x.line) := fun V o => (H4.out r x hx V (hwz.trans (ho.trans o))).2.2
              have hmz := HMt.out (mnK kq i x) (by rw [mnT, List.mem_append, List.mem_map]; exact .inl ⟨x, List.mem_of_getElem? hx, rfl⟩)
              have HM1 := Lib.hid (fun V => RMay_any x.term V hmz.a.1)
              have HM2 := Lib.hid (fun V => RMay_any x.sub V hmz.a.2.1)
              have hpk := pre_keys HPr.out hx
              have Hfl : Hid (∀ f, termF (mnK kq i x) = some f → (mns S S.length).findSome? termF = some f) := Lib.hid fun f hf => first_pre hpk HA.out hf
              have Hnx : Hid (termF (mnK kq i x) = none → ∀ m ∈ P ++ (t.keys.take (r + 1)).map (mnK kq i), termF m = none) := Lib.hid fun h => by
                rw [List.take_add_one, hx, List.map_append, ← List.append_assoc]
                exact none_snoc HA.out h
              have Hbw : Hid (badW (mnK kq i x) = if mayT x.term = false then some x.term else if ¬ x.sub = noB ∧ mayT x.sub = false then some x.sub else none) := Lib.hid rfl
              clear hx hpk hmz
              go_upto_region 10 with fail
              have p0 := later (show (wr.alloc (.cells #[.string x.term, .string x.sub, .int .i64 x.line] 40)).cell? ⟨wr.heap.size, 0, none⟩ = some (.string x.term) by simp [go_sem])
              have p1 := later (show (wr.alloc (.cells #[.string x.term, .string x.sub, .int .i64 x.line] 40)).cell? ⟨wr.heap.size, 1, none⟩ = some (.string x.sub) by simp [go_sem])
              have p2 := later (show (wr.alloc (.cells #[.string x.term, .string x.sub, .int .i64 x.line] 40)).cell? ⟨wr.heap.size, 2, none⟩ = some (.int .i64 x.line) by simp [go_sem])
              have hoB := hoK.alloc (.cells #[.string x.term, .string x.sub, .int .i64 x.line] 40)
              generalize wr.alloc (.cells #[.string x.term, .string x.sub, .int .i64 x.line] 40) = wB at *
              generalize wr.heap.size = gr at *
              clear e0 e1 e2 ho hoK
              have hoZ := hoA.trans hoB
              cases h1 : mayT x.term with
              | false =>
                rw [h1] at HM1
                have HFl := Lib.hid (Hfl.out ⟨90, i, x.line, 0, x.term⟩ (by unfold termF; rw [Hbw.out, if_pos h1]; rfl))
                clear h1 Hfl Hnx
                go_wp2_with (first
                  | (go_at_call 106; (with_reducible refine (HM1.out _).mono ?_); rintro e w5 ⟨rfl, o5⟩)
                  | (go_at_call 75; refine (At_any 90 i x.line 0 x.term _).mono ?_; rintro e w6 ⟨rfl, o6⟩; have q0 := HX.out.c0 _ (hoZ.trans (o5.trans o6)); have q1 := HX.out.c1 _ (hoZ.trans (o5.trans o6)); have q2 := HX.out.c2 _ (hoZ.trans (o5.trans o6)); have q3 := HX.out.c3 _ (hoZ.trans (o5.trans o6)); have q4 := HX.out.c4 _ (hoZ.trans (o5.trans o6)); have q5 := HX.out.c5 _ (hoZ.trans (o5.trans o6)); have qf := HX.out.fz _ (hoZ.trans (o5.trans o6)); simp only [fltC]))
                (try simp only [Exit.inBlock, Exit.then])
                refine bodyPost_ret (v := .agg (fltC ⟨90, i, x.line, 0, x.term⟩).toArray) (by simp [results, Tryz.results77, go_sem, q0, q1, q2, q3, q4, q5, fltC]) rfl ⟨by rw [HFl.out]; rfl, old_six (hwz.trans (hoZ.trans (o5.trans o6))) hBw⟩
              | true =>
                rw [h1] at HM1
                by_cases hs : x.sub = noB
                · have hsn := str_bnn (a := x.sub) (b := ⟨#[]⟩) hs
                  have hse : x.sub.toList.isEmpty = true := by rw [hs, ByteArray.toList_eq]; rfl
                  have HN := Lib.hid (Hnx.out (by unfold termF; rw [Hbw.out, if_neg (by simp [h1]), if_neg (fun k => k.1 hs)]; rfl))
                  clear h1 hs Hfl Hnx HM2
                  go_wp2_with (first
                    | (go_at_call 106; (with_reducible refine (HM1.out _).mono ?_); rintro e w5 ⟨rfl, o5⟩))
                  go_roundw
                  case rel => exact ⟨r + 1, by go_num, by omega, HN.out, hoB.trans o5⟩
                  case measure => simp [intOf]; omega
                · have hsn := str_bne (a := x.sub) (b := ⟨#[]⟩) hs
                  have hse : x.sub.toList.isEmpty = false := by rw [← Bool.not_eq_true, List.isEmpty_iff]; exact fun k => hs (ByteArray_eq_of9 (by rw [k, ByteArray.toList_eq]; rfl))
                  cases h2 : mayT x.sub with
                  | false =>
                    rw [h2] at HM2
                    have HFl := Lib.hid (Hfl.out ⟨90, i, x.line, 0, x.sub⟩ (by unfold termF; rw [Hbw.out, if_neg (by simp [h1]), if_pos ⟨hs, h2⟩]; rfl))
                    clear h1 h2 hs Hfl Hnx
                    go_wp2_with (first
                      | (go_at_call 106; first | ((with_reducible refine (HM1.out _).mono ?_); rintro e w5 ⟨rfl, o5⟩) | ((with_reducible refine (HM2.out _).mono ?_); rintro e w7 ⟨rfl, o7⟩; have o57 := o5.trans o7))
                      | (go_at_call 75; refine (At_any 90 i x.line 0 x.sub _).mono ?_; rintro e w6 ⟨rfl, o6⟩; have q0 := HX.out.c0 _ (hoZ.trans (o5.trans (o7.trans o6))); have q1 := HX.out.c1 _ (hoZ.trans (o5.trans (o7.trans o6))); have q2 := HX.out.c2 _ (hoZ.trans (o5.trans (o7.trans o6))); have q3 := HX.out.c3 _ (hoZ.trans (o5.trans (o7.trans o6))); have q4 := HX.out.c4 _ (hoZ.trans (o5.trans (o7.trans o6))); have q5 := HX.out.c5 _ (hoZ.trans (o5.trans (o7.trans o6))); have qf := HX.out.fz _ (hoZ.trans (o5.trans (o7.trans o6))); simp only [fltC]))
                    (try simp only [Exit.inBlock, Exit.then])
                    refine bodyPost_ret (v := .agg (fltC ⟨90, i, x.line, 0, x.sub⟩).toArray) (by simp [results, Tryz.results77, go_sem, q0, q1, q2, q3, q4, q5, fltC]) rfl ⟨by rw [HFl.out]; rfl, old_six (hwz.trans (hoZ.trans (o5.trans (o7.trans o6)))) hBw⟩
                  | true =>
                    rw [h2] at HM2
                    have HN := Lib.hid (Hnx.out (by unfold termF; rw [Hbw.out, if_neg (by simp [h1]), if_neg (fun k => by simp [h2] at k)]; rfl))
                    clear h1 h2 hs Hfl Hnx
                    go_wp2_with (first
                      | (go_at_call 106; first | ((with_reducible refine (HM1.out _).mono ?_); rintro e w5 ⟨rfl, o5⟩) | ((with_reducible refine (HM2.out _).mono ?_); rintro e w7 ⟨rfl, o7⟩; have o57 := o5.trans o7)))
                    go_roundw
                    case rel => exact ⟨r + 1, by go_num, by omega, HN.out, hoB.trans (o5.trans o7)⟩
                    case measure => simp [intOf]; omega
            · obtain rfl : r = t.keys.length := by omega
              have hr1 : ¬ (t.keys.length : Int) < t.keys.length := by omega
              rw [List.take_length] at HA
              have k5 := K5.out _ hoK
              have ho5 := hoA.trans hoK
              clear hr hoK
              go_upto_region 16 with fail
              clear k5
              go_loopw [61] (fun j wx => ∃ (r : Nat), j = .int .i64 r ∧ r ≤ t.sees.length ∧ (∀ m ∈ P ++ t.keys.map (mnK kq i) ++ (t.sees.take r).map (mnS kq i), termF m = none) ∧ Old wz wx) (fun j _ => t.sees.length - (intOf j).toNat)
              case atStart => exact ⟨0, rfl, Nat.zero_le _, by rw [List.take_zero, List.map_nil, List.append_nil]; exact HA.out, ho5⟩
              case round =>
                clear HA ho5
                obtain ⟨r, rfl, hr, hA, ho⟩ := hrel
                have HA := Lib.hid hA
                clear hA
                by_cases hlt3 : r < t.sees.length
                · have hr1 : (r : Int) < t.sees.length := by omega
                  obtain ⟨x, hx⟩ : ∃ x, t.sees[r]? = some x := ⟨_, List.getElem?_eq_getElem hlt3⟩
                  obtain rfl := Ha5.out (by omega)
                  have e0 : ∀ V, Old wr V → V.cell? ⟨b5, o5 + r * 3, none⟩ = some (.string x.frm) := fun V o => (H5.out r x hx V (hwz.trans (ho.trans o))).1
                  have e1 : ∀ V, Old wr V → V.cell? ⟨b5, o5 + r * 3 + 1, none⟩ = some (.string x.aim) := fun V o => (H5.out r x hx V (hwz.trans (ho.trans o))).2.1
                  have e2 : ∀ V, Old wr V → V.cell? ⟨b5, o5 + r * 3 + 2, none⟩ = some (.int .i64 x.line) := fun V o => (H5.out r x hx V (hwz.trans (ho.trans o))).2.2
                  have hmz := HMt.out (mnS kq i x) (by rw [mnT, List.mem_append, List.mem_map, List.mem_map]; exact .inr ⟨x, List.mem_of_getElem? hx, rfl⟩)
                  have HM1 := Lib.hid (fun V => RMay_any x.frm V hmz.a.1)
                  have HM2 := Lib.hid (fun V => RMay_any x.aim V hmz.a.2.2)
                  have hpk := pre_sees HPr.out hx
                  have Hfl : Hid (∀ f, termF (mnS kq i x) = some f → (mns S S.length).findSome? termF = some f) := Lib.hid fun f hf => first_pre hpk HA.out hf
                  have Hnx : Hid (termF (mnS kq i x) = none → ∀ m ∈ P ++ t.keys.map (mnK kq i) ++ (t.sees.take (r + 1)).map (mnS kq i), termF m = none) := Lib.hid fun h => by
                    rw [List.take_add_one, hx, List.map_append, ← List.append_assoc]
                    exact none_snoc HA.out h
                  have Hbw : Hid (badW (mnS kq i x) = if mayT x.frm = false then some x.frm else if mayT x.aim = false then some x.aim else none) := Lib.hid (by simp [badW, mnS])
                  clear hx hpk hmz
                  go_upto_region 18 with fail
                  have p0 := later (show (wr.alloc (.cells #[.string x.frm, .string x.aim, .int .i64 x.line] 78)).cell? ⟨wr.heap.size, 0, none⟩ = some (.string x.frm) by simp [go_sem])
                  have p1 := later (show (wr.alloc (.cells #[.string x.frm, .string x.aim, .int .i64 x.line] 78)).cell? ⟨wr.heap.size, 1, none⟩ = some (.string x.aim) by simp [go_sem])
                  have p2 := later (show (wr.alloc (.cells #[.string x.frm, .string x.aim, .int .i64 x.line] 78)).cell? ⟨wr.heap.size, 2, none⟩ = some (.int .i64 x.line) by simp [go_sem])
                  have hoZ := ho.alloc (.cells #[.string x.frm, .string x.aim, .int .i64 x.line] 78)
                  generalize wr.alloc (.cells #[.string x.frm, .string x.aim, .int .i64 x.line] 78) = wB at *
                  generalize wr.heap.size = gr at *
                  clear e0 e1 e2 ho
                  cases h1 : mayT x.frm with
                  | false =>
                    rw [h1] at HM1
                    have HFl := Lib.hid (Hfl.out ⟨90, i, x.line, 0, x.frm⟩ (by unfold termF; rw [Hbw.out, if_pos h1]; rfl))
                    clear h1 Hfl Hnx
                    go_wp2_with (first
                      | (go_at_call 106; (with_reducible refine (HM1.out _).mono ?_); rintro e w5 ⟨rfl, o5⟩)
                      | (go_at_call 75; refine (At_any 90 i x.line 0 x.frm _).mono ?_; rintro e w6 ⟨rfl, o6⟩; have q0 := HX.out.c0 _ (hoZ.trans (o5.trans o6)); have q1 := HX.out.c1 _ (hoZ.trans (o5.trans o6)); have q2 := HX.out.c2 _ (hoZ.trans (o5.trans o6)); have q3 := HX.out.c3 _ (hoZ.trans (o5.trans o6)); have q4 := HX.out.c4 _ (hoZ.trans (o5.trans o6)); have q5 := HX.out.c5 _ (hoZ.trans (o5.trans o6)); have qf := HX.out.fz _ (hoZ.trans (o5.trans o6)); simp only [fltC]))
                    (try simp only [Exit.inBlock, Exit.then])
                    refine bodyPost_ret (v := .agg (fltC ⟨90, i, x.line, 0, x.frm⟩).toArray) (by simp [results, Tryz.results77, go_sem, q0, q1, q2, q3, q4, q5, fltC]) rfl ⟨by rw [HFl.out]; rfl, old_six (hwz.trans (hoZ.trans (o5.trans o6))) hBw⟩
                  | true =>
                    rw [h1] at HM1
                    cases h2 : mayT x.aim with
                    | false =>
                      rw [h2] at HM2
                      have HFl := Lib.hid (Hfl.out ⟨90, i, x.line, 0, x.aim⟩ (by unfold termF; rw [Hbw.out, if_neg (by simp [h1]), if_pos h2]; rfl))
                      clear h1 h2 Hfl Hnx
                      go_wp2_with (first
                        | (go_at_call 106; first | ((with_reducible refine (HM1.out _).mono ?_); rintro e w5 ⟨rfl, o5⟩) | ((with_reducible refine (HM2.out _).mono ?_); rintro e w7 ⟨rfl, o7⟩; have o57 := o5.trans o7))
                        | (go_at_call 75; refine (At_any 90 i x.line 0 x.aim _).mono ?_; rintro e w6 ⟨rfl, o6⟩; have q0 := HX.out.c0 _ (hoZ.trans (o5.trans (o7.trans o6))); have q1 := HX.out.c1 _ (hoZ.trans (o5.trans (o7.trans o6))); have q2 := HX.out.c2 _ (hoZ.trans (o5.trans (o7.trans o6))); have q3 := HX.out.c3 _ (hoZ.trans (o5.trans (o7.trans o6))); have q4 := HX.out.c4 _ (hoZ.trans (o5.trans (o7.trans o6))); have q5 := HX.out.c5 _ (hoZ.trans (o5.trans (o7.trans o6))); have qf := HX.out.fz _ (hoZ.trans (o5.trans (o7.trans o6))); simp only [fltC]))
                      (try simp only [Exit.inBlock, Exit.then])
                      refine bodyPost_ret (v := .agg (fltC ⟨90, i, x.line, 0, x.aim⟩).toArray) (by simp [results, Tryz.results77, go_sem, q0, q1, q2, q3, q4, q5, fltC]) rfl ⟨by rw [HFl.out]; rfl, old_six (hwz.trans (hoZ.trans (o5.trans (o7.trans o6)))) hBw⟩
                    | true =>
                      rw [h2] at HM2
                      have HN := Lib.hid (Hnx.out (by unfold termF; rw [Hbw.out, if_neg (by simp [h1]), if_neg (by simp [h2])]; rfl))
                      clear h1 h2 Hfl Hnx
                      go_wp2_with (first
                        | (go_at_call 106; first | ((with_reducible refine (HM1.out _).mono ?_); rintro e w5 ⟨rfl, o5⟩) | ((with_reducible refine (HM2.out _).mono ?_); rintro e w7 ⟨rfl, o7⟩; have o57 := o5.trans o7)))
                      go_roundw
                      case rel => exact ⟨r + 1, by go_num, by omega, HN.out, hoZ.trans (o5.trans o7)⟩
                      case measure => simp [intOf]; omega
                · obtain rfl : r = t.sees.length := by omega
                  have hr1 : ¬ (t.sees.length : Int) < t.sees.length := by omega
                  rw [List.take_length] at HA
                  go_wp2_with fail
                  go_roundw
                  case rel => exact ⟨q + 1, by go_num, by omega, by rw [HTs.out, mnT, ← List.append_assoc]; exact HA.out, ho⟩
                  case measure => simp [intOf]; omega
        · obtain rfl : q = T.length := by omega
          have hq1 : ¬ (T.length : Int) < T.length := by omega
          go_wp2_with fail
          go_roundw
          case rel => exact ⟨i + 1, by go_num, by omega, by rw [Hsuc.out]; exact HA.out, ho⟩
          case measure => simp [intOf]; omega
    · obtain rfl : i = S.length := by omega
      have hi1 : ¬ (S.length : Int) < S.length := by omega
      have Hn := Lib.hid (Hall.out HA.out)
      have q0 := HX.out.c0 _ ho
      have q1 := HX.out.c1 _ ho
      have q2 := HX.out.c2 _ ho
      have q3 := HX.out.c3 _ ho
      have q4 := HX.out.c4 _ ho
      have q5 := HX.out.c5 _ ho
      have qf := HX.out.fz _ ho
      go_wp2_with fail
      (try simp only [Exit.inBlock, Exit.then])
      refine bodyPost_ret (v := .agg (fltC zeroF).toArray) (by simp [results, Tryz.results77, go_sem, q0, q1, q2, q3, q4, q5, fltC, zeroF]) rfl ⟨by rw [Hn.out]; rfl, old_six (hwz.trans ho) hBw⟩
end Go.Proofs.YtohngjkedhpikaaGreatDoor
