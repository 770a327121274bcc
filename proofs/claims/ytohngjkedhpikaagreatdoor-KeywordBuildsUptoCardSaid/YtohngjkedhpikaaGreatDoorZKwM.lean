/-
  KEYWORD, M: how sources with keys and sees lie; mentions.
-/
import Derived.Test.YtohngjkedhpikaaGreatDoorZKwP
import Derived.Test.YtohngjkedhpikaaGreatDoorZTextCodesD
import Derived.Test.YtohngjkedhpikaaGreatDoorProg
namespace Go.Proofs.YtohngjkedhpikaaGreatDoor
open Go.RowKit
attribute [local go_sem] Old.refl Old.alloc Old.drew Old.setCell OldW.old

/-- a topic as it lies -/
structure Tr where
  kind : Int
  name : ByteArray
  title : ByteArray
  lev : Int
  s4 : Sl
  s5 : Sl
  s6 : Sl
  line : Int
def trE : Enc Tr := ⟨8, fun x => [.int .i64 x.kind, .string x.name, .string x.title, .int .i64 x.lev, x.s4.v, x.s5.v, x.s6.v, .int .i64 x.line], fun _ => rfl, fun x u hu => by
  simp only [List.mem_cons, List.not_mem_nil, or_false] at hu
  rcases hu with rfl | rfl | rfl | rfl | rfl | rfl | rfl | rfl <;> rfl⟩
def srE : Enc (Sl × Sl) := ⟨2, fun x => [x.1.v, x.2.v], fun _ => rfl, fun x u hu => by
  simp only [List.mem_cons, List.not_mem_nil, or_false] at hu
  rcases hu with rfl | rfl <;> rfl⟩
def kqE : Enc Kq := ⟨3, fun x => [.string x.term, .string x.sub, .int .i64 x.line], fun _ => rfl, fun x u hu => by
  simp only [List.mem_cons, List.not_mem_nil, or_false] at hu
  rcases hu with rfl | rfl | rfl <;> rfl⟩
def skE : Enc Sq := ⟨3, fun x => [.string x.frm, .string x.aim, .int .i64 x.line], fun _ => rfl, fun x u hu => by
  simp only [List.mem_cons, List.not_mem_nil, or_false] at hu
  rcases hu with rfl | rfl | rfl <;> rfl⟩
def mnE : Enc Mn := ⟨7, fun x => [.int .i64 x.topic, .int .i64 x.src, .int .i64 x.line, .string x.term, .string x.sub, .string x.aim, .int .i64 x.see], fun _ => rfl, fun x u hu => by
  simp only [List.mem_cons, List.not_mem_nil, or_false] at hu
  rcases hu with rfl | rfl | rfl | rfl | rfl | rfl | rfl <;> rfl⟩
def TkR (w : World) (x : Tr) (t : Tk) : Prop := Recs kqE w x.s4.v t.keys ∧ Recs skE w x.s5.v t.sees
theorem TkR.old {w W : World} {x : Tr} {t : Tk} (h : TkR w x t) (o : Old w W) : TkR W x t := ⟨h.1.old o, h.2.old o⟩
def SrR (w : World) (x : Sl × Sl) (T : List Tk) : Prop := Seqs trE TkR w x.2.v T
def Srk (w : World) (v : Value) (S : List (List Tk)) : Prop := Seqs srE SrR w v S
theorem Srk.old {w W : World} {v : Value} {S : List (List Tk)} (h : Srk w v S) (o : Old w W) : Srk W v S :=
  Seqs.old (c := srE) (R := SrR) (fun _ _ _ _ h o => Seqs.old (c := trE) (R := TkR) (fun _ _ _ _ h o => TkR.old h o) h o) h o
theorem Srk.open {w : World} {a : Option Addr} {n cap : Nat} {S : List (List Tk)} (h : Srk w (.slice a n cap) S) : ∃ b off, (0 < S.length → a = some ⟨b, off, none⟩) ∧ ∀ (i : Nat) (T : List Tk), S[i]? = some T →
    ∃ a0 n0 c0 ax cx, (∀ V, Old w V → V.cell? ⟨b, off + i * 2, none⟩ = some (.slice a0 n0 c0) ∧ V.cell? ⟨b, off + i * 2 + 1, none⟩ = some (.slice ax T.length cx)) ∧ Seqs trE TkR w (.slice ax T.length cx) T ∧ T.length ≤ cx ∧ cx ≤ 9223372036854775807 := by
  obtain ⟨b, off, ha, h⟩ := Seqs.at h
  refine ⟨b, off, ha, fun i T hT => ?_⟩
  obtain ⟨⟨⟨a0, n0, c0⟩, ax, m, cx⟩, hR, hc⟩ := h i T hT
  obtain ⟨_, _, e, k1, k2⟩ := Seqs.form hR
  obtain ⟨rfl, rfl, rfl⟩ := Value.slice.inj e
  exact ⟨a0, n0, c0, ax, cx, fun V o => ⟨hc 0 _ rfl V o, by have := hc 1 _ rfl V o; rw [← Nat.add_assoc] at this; exact this⟩, hR, k1, k2⟩
theorem Trs.open {w : World} {a : Option Addr} {n cap : Nat} {T : List Tk} (h : Seqs trE TkR w (.slice a n cap) T) : ∃ b off, (0 < T.length → a = some ⟨b, off, none⟩) ∧ ∀ (i : Nat) (t : Tk), T[i]? = some t →
    ∃ kd nm ti lv a4 c4 a5 c5 a6 n6 c6 ln, (∀ V, Old w V → V.cell? ⟨b, off + i * 8, none⟩ = some (.int .i64 kd) ∧ V.cell? ⟨b, off + i * 8 + 1, none⟩ = some (.string nm) ∧ V.cell? ⟨b, off + i * 8 + 2, none⟩ = some (.string ti) ∧ V.cell? ⟨b, off + i * 8 + 3, none⟩ = some (.int .i64 lv) ∧
      V.cell? ⟨b, off + i * 8 + 4, none⟩ = some (.slice a4 t.keys.length c4) ∧ V.cell? ⟨b, off + i * 8 + 5, none⟩ = some (.slice a5 t.sees.length c5) ∧ V.cell? ⟨b, off + i * 8 + 6, none⟩ = some (.slice a6 n6 c6) ∧ V.cell? ⟨b, off + i * 8 + 7, none⟩ = some (.int .i64 ln)) ∧
      Recs kqE w (.slice a4 t.keys.length c4) t.keys ∧ Recs skE w (.slice a5 t.sees.length c5) t.sees := by
  obtain ⟨b, off, ha, h⟩ := Seqs.at h
  refine ⟨b, off, ha, fun i t ht => ?_⟩
  obtain ⟨⟨kd, nm, ti, lv, ⟨a4, n4, c4⟩, ⟨a5, n5, c5⟩, ⟨a6, n6, c6⟩, ln⟩, ⟨h4, h5⟩, hc⟩ := h i t ht
  obtain ⟨_, _, e, _, _⟩ := Recs.form h4
  obtain ⟨rfl, rfl, rfl⟩ := Value.slice.inj e
  obtain ⟨_, _, e, _, _⟩ := Recs.form h5
  obtain ⟨rfl, rfl, rfl⟩ := Value.slice.inj e
  refine ⟨kd, nm, ti, lv, a4, c4, a5, c5, a6, n6, c6, ln, fun V o => ?_, h4, h5⟩
  have g0 := hc 0 _ rfl V o
  have g1 := hc 1 _ rfl V o
  have g2 := hc 2 _ rfl V o
  have g3 := hc 3 _ rfl V o
  have g4 := hc 4 _ rfl V o
  have g5 := hc 5 _ rfl V o
  have g6 := hc 6 _ rfl V o
  have g7 := hc 7 _ rfl V o
  rw [← Nat.add_assoc] at g1 g2 g3 g4 g5 g6 g7
  exact ⟨g0, g1, g2, g3, g4, g5, g6, g7⟩
theorem Kqs.open {w : World} {a : Option Addr} {n cap : Nat} {l : List Kq} (h : Recs kqE w (.slice a n cap) l) : ∃ b off, (0 < l.length → a = some ⟨b, off, none⟩) ∧ ∀ (i : Nat) (x : Kq), l[i]? = some x →
    ∀ V, Old w V → V.cell? ⟨b, off + i * 3, none⟩ = some (.string x.term) ∧ V.cell? ⟨b, off + i * 3 + 1, none⟩ = some (.string x.sub) ∧ V.cell? ⟨b, off + i * 3 + 2, none⟩ = some (.int .i64 x.line) := by
  obtain ⟨a', cap', b, off, e, _, _, h3, ht⟩ := h
  obtain ⟨rfl, _, rfl⟩ := Value.slice.inj e
  refine ⟨b, off, h3, fun i x hx V o => ?_⟩
  have g0 := ht (i * 3 + 0) _ (Enc.all_at (c := kqE) (j := 0) hx rfl) V o
  have g1 := ht (i * 3 + 1) _ (Enc.all_at (c := kqE) (j := 1) hx rfl) V o
  have g2 := ht (i * 3 + 2) _ (Enc.all_at (c := kqE) (j := 2) hx rfl) V o
  rw [← Nat.add_assoc] at g1 g2
  exact ⟨g0, g1, g2⟩
theorem Sqs'.open {w : World} {a : Option Addr} {n cap : Nat} {l : List Sq} (h : Recs skE w (.slice a n cap) l) : ∃ b off, (0 < l.length → a = some ⟨b, off, none⟩) ∧ ∀ (i : Nat) (x : Sq), l[i]? = some x →
    ∀ V, Old w V → V.cell? ⟨b, off + i * 3, none⟩ = some (.string x.frm) ∧ V.cell? ⟨b, off + i * 3 + 1, none⟩ = some (.string x.aim) ∧ V.cell? ⟨b, off + i * 3 + 2, none⟩ = some (.int .i64 x.line) := by
  obtain ⟨a', cap', b, off, e, _, _, h3, ht⟩ := h
  obtain ⟨rfl, _, rfl⟩ := Value.slice.inj e
  refine ⟨b, off, h3, fun i x hx V o => ?_⟩
  have g0 := ht (i * 3 + 0) _ (Enc.all_at (c := skE) (j := 0) hx rfl) V o
  have g1 := ht (i * 3 + 1) _ (Enc.all_at (c := skE) (j := 1) hx rfl) V o
  have g2 := ht (i * 3 + 2) _ (Enc.all_at (c := skE) (j := 2) hx rfl) V o
  rw [← Nat.add_assoc] at g1 g2
  exact ⟨g0, g1, g2⟩
theorem Mns.open {w : World} {a : Option Addr} {n cap : Nat} {l : List Mn} (h : Recs mnE w (.slice a n cap) l) : ∃ b off, (0 < l.length → a = some ⟨b, off, none⟩) ∧ ∀ (i : Nat) (x : Mn), l[i]? = some x →
    ∀ V, Old w V → V.cell? ⟨b, off + i * 7, none⟩ = some (.int .i64 x.topic) ∧ V.cell? ⟨b, off + i * 7 + 1, none⟩ = some (.int .i64 x.src) ∧ V.cell? ⟨b, off + i * 7 + 2, none⟩ = some (.int .i64 x.line) ∧ V.cell? ⟨b, off + i * 7 + 3, none⟩ = some (.string x.term) ∧
      V.cell? ⟨b, off + i * 7 + 4, none⟩ = some (.string x.sub) ∧ V.cell? ⟨b, off + i * 7 + 5, none⟩ = some (.string x.aim) ∧ V.cell? ⟨b, off + i * 7 + 6, none⟩ = some (.int .i64 x.see) := by
  obtain ⟨a', cap', b, off, e, _, _, h3, ht⟩ := h
  obtain ⟨rfl, _, rfl⟩ := Value.slice.inj e
  refine ⟨b, off, h3, fun i x hx V o => ?_⟩
  have g0 := ht (i * 7 + 0) _ (Enc.all_at (c := mnE) (j := 0) hx rfl) V o
  have g1 := ht (i * 7 + 1) _ (Enc.all_at (c := mnE) (j := 1) hx rfl) V o
  have g2 := ht (i * 7 + 2) _ (Enc.all_at (c := mnE) (j := 2) hx rfl) V o
  have g3 := ht (i * 7 + 3) _ (Enc.all_at (c := mnE) (j := 3) hx rfl) V o
  have g4 := ht (i * 7 + 4) _ (Enc.all_at (c := mnE) (j := 4) hx rfl) V o
  have g5 := ht (i * 7 + 5) _ (Enc.all_at (c := mnE) (j := 5) hx rfl) V o
  have g6 := ht (i * 7 + 6) _ (Enc.all_at (c := mnE) (j := 6) hx rfl) V o
  rw [← Nat.add_assoc] at g1 g2 g3 g4 g5 g6
  exact ⟨g0, g1, g2, g3, g4, g5, g6⟩

/-! ### how many -/
theorem mnsT_pre (n : Nat) (i : Int) (T : List Tk) {b c : Nat} (h : b ≤ c) : mnsT n i T b <+: mnsT n i T c := by
  induction h with
  | refl => exact List.prefix_refl _
  | step _ ih => exact ih.trans ⟨_, rfl⟩
theorem mns_pre (S : List (List Tk)) {b c : Nat} (h : b ≤ c) : mns S b <+: mns S c := by
  induction h with
  | refl => exact List.prefix_refl _
  | step _ ih => exact ih.trans ⟨_, rfl⟩
theorem mns_room {S : List (List Tk)} {a b : Nat} {T : List Tk} {t : Tk} (ha : S[a]? = some T) (hb : T[b]? = some t) : (mns S a ++ mnsT (totK S a) a T b).length + (t.keys.length + t.sees.length) ≤ (mns S S.length).length := by
  have hal : a < S.length := (List.getElem?_eq_some_iff.1 ha).1
  have hbl : b < T.length := (List.getElem?_eq_some_iff.1 hb).1
  have h1 := (mns_pre S (show a + 1 ≤ S.length from hal)).length_le
  rw [mns_succ ha, List.length_append] at h1
  have h2 := (mnsT_pre (totK S a) (a : Int) T (show b + 1 ≤ T.length from hbl)).length_le
  rw [mnsT_succ hb, List.length_append] at h2
  have h3 : (mnT ((totK S a + b : Nat) : Int) a t).length = t.keys.length + t.sees.length := by simp [mnT]
  rw [List.length_append]
  omega
theorem tot_room {S : List (List Tk)} {a : Nat} {T : List Tk} (ha : S[a]? = some T) : totK S a + T.length ≤ totK S S.length := by
  have h1 := totK_mono S (show a + 1 ≤ S.length from (List.getElem?_eq_some_iff.1 ha).1)
  rw [totK_succ ha] at h1
  exact h1
theorem infoMn : (Tryz.prog.info? 128).map (fun i => (i.zero, i.size, i.bytes)) = some (some (.agg #[.int .i64 0, .int .i64 0, .int .i64 0, .string ⟨#[]⟩, .string ⟨#[]⟩, .string ⟨#[]⟩, .int .i64 0]), 7, 80) := by kernel_rfl
set_option maxRecDepth 100000 in
set_option maxHeartbeats 3200000 in
theorem mentions_any (v : Value) (S : List (List Tk)) (w : World) (hv : Srk w v S) (hm : (mns S S.length).length ≤ 1000000) (ht : totK S S.length ≤ 1000000) :
    Calls Tryz.prog 40 #[v] w fun e w' => (∃ u, e = .returned u ∧ OwnS mnE 128 w w' u (mns S S.length)) ∧ Old w w' := by
  obtain ⟨a, cap, rfl, hc1, hc2⟩ := Seqs.form hv
  obtain ⟨bs, os, has, hats⟩ := Srk.open hv
  have Has := Lib.hid has
  have Hats := Lib.hid hats
  have Hm := Lib.hid hm
  have Ht := Lib.hid ht
  clear hv has hats hm ht
  go_enter Tryz.func40, Tryz.ntmps40
  go_wp2_with fail
  go_loopw [3, 4, 15] (fun u x j wr => ∃ (i : Nat), j = .int .i64 i ∧ x = .int .i64 (totK S i) ∧ i ≤ S.length ∧ OwnS mnE 128 w wr u (mns S i) ∧ Old w wr) (fun _ _ j _ => S.length - (intOf j).toNat)
  case atStart => exact ⟨0, rfl, rfl, Nat.zero_le _, OwnS.nil _ _ _ _, Old.refl _⟩
  case round =>
    obtain ⟨i, rfl, rfl, hi, hown, ho⟩ := hrel
    by_cases hlt : i < S.length
    · have hi1 : (i : Int) < S.length := by omega
      obtain ⟨T, hTi⟩ : ∃ T, S[i]? = some T := ⟨_, List.getElem?_eq_getElem hlt⟩
      obtain ⟨a0, n0, c0', ax, cx, hcs, hTs, k1, k2⟩ := Hats.out i T hTi
      obtain rfl := Has.out (by omega)
      have c0 : ∀ V, Old wr V → V.cell? ⟨bs, os + i * 2, none⟩ = some (.slice a0 n0 c0') := fun V o => (hcs V (ho.trans o)).1
      have c1 : ∀ V, Old wr V → V.cell? ⟨bs, os + i * 2 + 1, none⟩ = some (.slice ax T.length cx) := fun V o => (hcs V (ho.trans o)).2
      obtain ⟨bt, ot, hat, hatt⟩ := Trs.open hTs
      have HTi := Lib.hid hTi
      have Hat := Lib.hid hat
      have Hatt := Lib.hid hatt
      have HO := Lib.hid hown
      clear hcs hTs hat hatt hTi hown
      go_wp2_with fail
      have oa : Old wr (wr.alloc (.cells #[.slice a0 n0 c0', .slice ax T.length cx] 33)) := (Old.refl wr).alloc _
      have o1 := ho.trans oa
      have hown := HO.out.old oa
      generalize wr.alloc (.cells #[.slice a0 n0 c0', .slice ax T.length cx] 33) = w1 at *
      clear c0 c1 ho HO oa
      go_loopw [3, 4, 23] (fun u x j wr => ∃ (k : Nat), j = .int .i64 k ∧ x = .int .i64 ((totK S i + k : Nat) : Int) ∧ k ≤ T.length ∧ OwnS mnE 128 w wr u (mns S i ++ mnsT (totK S i) i T k) ∧ Old w wr) (fun _ _ j _ => T.length - (intOf j).toNat)
      case atStart => exact ⟨0, rfl, rfl, Nat.zero_le _, by rw [show mnsT (totK S i) i T 0 = [] from rfl, List.append_nil]; exact hown, o1⟩
      case round =>
        clear hown o1
        obtain ⟨k, rfl, rfl, hk, hown, ho⟩ := hrel
        have HtnE : ∃ tn : Int, tn = ((totK S i + k : Nat) : Int) := ⟨_, rfl⟩
        obtain ⟨tn, htn⟩ := HtnE
        by_cases hlt2 : k < T.length
        · have hk1 : (k : Int) < T.length := by omega
          obtain ⟨t, htk⟩ : ∃ t, T[k]? = some t := ⟨_, List.getElem?_eq_getElem hlt2⟩
          obtain ⟨kd, nm, ti, lv, a4, c4', a5, c5', a6, n6, c6', ln, hcs, hK4, hK5⟩ := Hatt.out k t htk
          obtain rfl := Hat.out (by omega)
          have Hrow : Hid (mns S i ++ mnsT (totK S i) i T (k + 1) = (mns S i ++ mnsT (totK S i) i T k) ++ mnT ((totK S i + k : Nat) : Int) i t) := Lib.hid (by rw [mnsT_succ htk, List.append_assoc])
          have hroom := mns_room HTi.out htk
          have htot := tot_room HTi.out
          have hmx := Hm.out
          have htx := Ht.out
          have g0 : ∀ V, Old wr V → V.cell? ⟨bt, ot + k * 8, none⟩ = some (.int .i64 kd) := fun V o => (hcs V (ho.trans o)).1
          have g1 : ∀ V, Old wr V → V.cell? ⟨bt, ot + k * 8 + 1, none⟩ = some (.string nm) := fun V o => (hcs V (ho.trans o)).2.1
          have g2 : ∀ V, Old wr V → V.cell? ⟨bt, ot + k * 8 + 2, none⟩ = some (.string ti) := fun V o => (hcs V (ho.trans o)).2.2.1
          have g3 : ∀ V, Old wr V → V.cell? ⟨bt, ot + k * 8 + 3, none⟩ = some (.int .i64 lv) := fun V o => (hcs V (ho.trans o)).2.2.2.1
          have g4 : ∀ V, Old wr V → V.cell? ⟨bt, ot + k * 8 + 4, none⟩ = some (.slice a4 t.keys.length c4') := fun V o => (hcs V (ho.trans o)).2.2.2.2.1
          have g5 : ∀ V, Old wr V → V.cell? ⟨bt, ot + k * 8 + 5, none⟩ = some (.slice a5 t.sees.length c5') := fun V o => (hcs V (ho.trans o)).2.2.2.2.2.1
          have g6 : ∀ V, Old wr V → V.cell? ⟨bt, ot + k * 8 + 6, none⟩ = some (.slice a6 n6 c6') := fun V o => (hcs V (ho.trans o)).2.2.2.2.2.2.1
          have g7 : ∀ V, Old wr V → V.cell? ⟨bt, ot + k * 8 + 7, none⟩ = some (.int .i64 ln) := fun V o => (hcs V (ho.trans o)).2.2.2.2.2.2.2
          obtain ⟨b4, o4, ha4, h4⟩ := Kqs.open hK4
          obtain ⟨b5, o5, ha5, h5⟩ := Sqs'.open hK5
          have Ha4 := Lib.hid ha4
          have H4 := Lib.hid h4
          have Ha5 := Lib.hid ha5
          have H5 := Lib.hid h5
          have HO := Lib.hid hown
          have hl4 : t.keys.length ≤ 1000000 := by omega
          have hl5 : t.sees.length ≤ 1000000 := by omega
          clear hcs hK4 hK5 ha4 h4 ha5 h5 hown htk
          have htn0 : 0 ≤ tn ∧ tn ≤ 1000000 := by omega
          rw [← htn] at Hrow ⊢
          have Htn := Lib.hid htn
          clear htn
          generalize hl0 : mns S i ++ mnsT (totK S i) i T k = l0 at *
          have HL0 := Lib.hid hl0
          clear hl0
          go_upto_region 9 with fail
          have oa : Old wr (wr.alloc (.cells #[.int .i64 kd, .string nm, .string ti, .int .i64 lv, .slice a4 t.keys.length c4', .slice a5 t.sees.length c5', .slice a6 n6 c6', .int .i64 ln] 38)) := (Old.refl wr).alloc _
          have C4 := later (show (wr.alloc (.cells #[.int .i64 kd, .string nm, .string ti, .int .i64 lv, .slice a4 t.keys.length c4', .slice a5 t.sees.length c5', .slice a6 n6 c6', .int .i64 ln] 38)).cell? ⟨wr.heap.size, 4, none⟩ = some (.slice a4 t.keys.length c4') by simp [go_sem])
          have C5 := later (show (wr.alloc (.cells #[.int .i64 kd, .string nm, .string ti, .int .i64 lv, .slice a4 t.keys.length c4', .slice a5 t.sees.length c5', .slice a6 n6 c6', .int .i64 ln] 38)).cell? ⟨wr.heap.size, 5, none⟩ = some (.slice a5 t.sees.length c5') by simp [go_sem])
          have oA := ho.trans oa
          have hgA' : wr.heap.size < (wr.alloc (.cells #[.int .i64 kd, .string nm, .string ti, .int .i64 lv, .slice a4 t.keys.length c4', .slice a5 t.sees.length c5', .slice a6 n6 c6', .int .i64 ln] 38)).heap.size := by simp
          have hug : _ ≠ some wr.heap.size := fun e => absurd (World.ownsRow.lt HO.out _ e).2 (Nat.lt_irrefl _)
          replace HO := Lib.hid (HO.out.old oa)
          generalize wr.alloc (.cells #[.int .i64 kd, .string nm, .string ti, .int .i64 lv, .slice a4 t.keys.length c4', .slice a5 t.sees.length c5', .slice a6 n6 c6', .int .i64 ln] 38) = wA at *
          generalize wr.heap.size = g at *
          clear g0 g1 g2 g3 g4 g5 g6 g7 oa ho
          have hgA : g < wA.heap.size := hgA'
          clear hgA'
          go_wp2_with fail
          go_loopw [3, 30] (fun u j wr => ∃ (n : Nat), j = .int .i64 n ∧ n ≤ t.keys.length ∧ OwnS mnE 128 w wr u (l0 ++ (t.keys.take n).map (mnK tn i)) ∧ Old w wr ∧ u.ownBlock ≠ some g ∧ g < wr.heap.size ∧ wr.cell? ⟨g, 5, none⟩ = some (.slice a5 t.sees.length c5')) (fun _ j _ => t.keys.length - (intOf j).toNat)
          case atStart => exact ⟨0, rfl, Nat.zero_le _, by simpa using HO.out, oA, hug, hgA, C5 _ (Old.refl _)⟩
          case round =>
            clear C4 C5 HO hug hgA oA
            obtain ⟨n, rfl, hn, hown, ho, hug, hg, hc5⟩ := hrel
            have HO := Lib.hid hown
            have Hc5 := Lib.hid hc5
            clear hown
            by_cases hlt3 : n < t.keys.length
            · have hn1 : (n : Int) < t.keys.length := by omega
              obtain ⟨x, hx⟩ : ∃ x, t.keys[n]? = some x := ⟨_, List.getElem?_eq_getElem hlt3⟩
              obtain rfl := Ha4.out (by omega)
              have d0 : ∀ V, Old wr V → V.cell? ⟨b4, o4 + n * 3, none⟩ = some (.string x.term) := fun V o => (H4.out n x hx V (ho.trans o)).1
              have d1 : ∀ V, Old wr V → V.cell? ⟨b4, o4 + n * 3 + 1, none⟩ = some (.string x.sub) := fun V o => (H4.out n x hx V (ho.trans o)).2.1
              have d2 : ∀ V, Old wr V → V.cell? ⟨b4, o4 + n * 3 + 2, none⟩ = some (.int .i64 x.line) := fun V o => (H4.out n x hx V (ho.trans o)).2.2
              have Hsn : Hid (l0 ++ (t.keys.take (n + 1)).map (mnK tn i) = (l0 ++ (t.keys.take n).map (mnK tn i)) ++ [mnK tn i x]) := Lib.hid (by rw [List.take_add_one, hx]; simp)
              have hrl : (l0 ++ (t.keys.take n).map (mnK tn i)).length + 1 ≤ 1000000 := by rw [List.length_append, List.length_map, List.length_take]; omega
              clear hx hc5
              generalize l0 ++ (t.keys.take n).map (mnK tn i) = raw at *
              go_wp2_with (at_builtin; go_loud (refine wpList_append_at (c := mnE) (w0 := w) rfl _ _ 80 rfl 128 Tryz.underlying80 _ infoMn rfl (Nat.zero_lt_succ 6) _ raw [mnK tn i x] rfl ((HO.out.alloc _).alloc _) _ rfl (Recs.oneAt (c := mnE) _ 128 (mnK tn i x) (by simp [go_sem])) (Nat.zero_lt_succ 0) (by simp; omega) (by simp; omega) (((ho.alloc _).alloc _).size) ?_); intro g5 cp5 w5 hown5 hg5 hat5 hlt5)
              have hoA : Old wr ((wr.alloc (.cells #[.string x.term, .string x.sub, .int .i64 x.line] 40)).alloc (.cells #[.int .i64 tn, .int .i64 i, .int .i64 x.line, .string x.term, .string x.sub, .string ⟨#[]⟩, .int .i64 0] 128)) := ((Old.refl wr).alloc _).alloc _
              have hsA := hoA.size
              have hc6 := hoA.cell Hc5.out
              have hr5 := fun k hk => (World.ownsRow.lt HO.out k hk).1
              have ho5 := (ho.trans hoA).grown hg5 hr5
              have hbk := hg5.block g (by omega) (Ne.symm hug)
              have hc7 := (World.cell?_of_block (a := ⟨g, 5, none⟩) hbk).trans hc6
              have hsz5 := hg5.size
              have hne5 : (Value.slice (some ⟨g5, 0, none⟩) (raw.length + 1) cp5).ownBlock ≠ some g := by
                intro e
                obtain rfl : g5 = g := Option.some.inj e
                rcases hat5 with h | h
                · exact hug h
                · omega
              have HO5 := Lib.hid hown5
              clear hg5 hat5 hbk hc6 hoA hown5 hr5
              go_roundw
              case rel => exact ⟨n + 1, by go_num, by omega, by rw [Hsn.out]; exact HO5.out, ho5, hne5, by omega, hc7⟩
              case measure => simp [intOf]; omega
            · obtain rfl : n = t.keys.length := by omega
              have hn1 : ¬ (t.keys.length : Int) < t.keys.length := by omega
              have Hk : Hid (l0 ++ (t.keys.take t.keys.length).map (mnK tn i) = l0 ++ t.keys.map (mnK tn i)) := Lib.hid (by rw [List.take_length])
              rw [Hk.out] at HO
              have hl1 : (l0 ++ t.keys.map (mnK tn i)).length + t.sees.length ≤ 1000000 := by rw [List.length_append, List.length_map]; omega
              have Hl1 : Hid (mns S i ++ mnsT (totK S i) i T (k + 1) = (l0 ++ t.keys.map (mnK tn i)) ++ t.sees.map (mnS tn i)) := Lib.hid (by rw [Hrow.out, mnT, List.append_assoc])
              clear Hk Hrow hn1 Ha4 H4
              generalize l0 ++ t.keys.map (mnK tn i) = l1 at *
              go_wp2_with fail
              clear hc5 Hc5 hug hg
              go_loopw [3, 50] (fun u j wr => ∃ (n : Nat), j = .int .i64 n ∧ n ≤ t.sees.length ∧ OwnS mnE 128 w wr u (l1 ++ (t.sees.take n).map (mnS tn i)) ∧ Old w wr) (fun _ j _ => t.sees.length - (intOf j).toNat)
              case atStart => exact ⟨0, rfl, Nat.zero_le _, by simpa using HO.out, ho⟩
              case round =>
                clear HO ho
                obtain ⟨n, rfl, hn, hown, ho⟩ := hrel
                have HO := Lib.hid hown
                clear hown
                by_cases hlt3 : n < t.sees.length
                · have hn1 : (n : Int) < t.sees.length := by omega
                  obtain ⟨x, hx⟩ : ∃ x, t.sees[n]? = some x := ⟨_, List.getElem?_eq_getElem hlt3⟩
                  obtain rfl := Ha5.out (by omega)
                  have d0 : ∀ V, Old wr V → V.cell? ⟨b5, o5 + n * 3, none⟩ = some (.string x.frm) := fun V o => (H5.out n x hx V (ho.trans o)).1
                  have d1 : ∀ V, Old wr V → V.cell? ⟨b5, o5 + n * 3 + 1, none⟩ = some (.string x.aim) := fun V o => (H5.out n x hx V (ho.trans o)).2.1
                  have d2 : ∀ V, Old wr V → V.cell? ⟨b5, o5 + n * 3 + 2, none⟩ = some (.int .i64 x.line) := fun V o => (H5.out n x hx V (ho.trans o)).2.2
                  have Hsn : Hid (l1 ++ (t.sees.take (n + 1)).map (mnS tn i) = (l1 ++ (t.sees.take n).map (mnS tn i)) ++ [mnS tn i x]) := Lib.hid (by rw [List.take_add_one, hx]; simp)
                  have hrl : (l1 ++ (t.sees.take n).map (mnS tn i)).length + 1 ≤ 1000000 := by rw [List.length_append, List.length_map, List.length_take]; omega
                  clear hx
                  generalize l1 ++ (t.sees.take n).map (mnS tn i) = raw at *
                  go_wp2_with (at_builtin; go_loud (refine wpList_append_recs (c := mnE) (w0 := w) rfl _ _ 80 rfl 128 Tryz.underlying80 _ infoMn rfl (Nat.zero_lt_succ 6) _ raw [mnS tn i x] rfl ((HO.out.alloc _).alloc _) _ rfl (Recs.oneAt (c := mnE) _ 128 (mnS tn i x) (by simp [go_sem])) (by simp; omega) (by simp; omega) ((ho.alloc _).alloc _) ?_); intro v5 w5 hown5 ho5 hg5)
                  have HO5 := Lib.hid hown5
                  clear hg5 hown5
                  go_roundw
                  case rel => exact ⟨n + 1, by go_num, by omega, by rw [Hsn.out]; exact HO5.out, ho5⟩
                  case measure => simp [intOf]; omega
                · obtain rfl : n = t.sees.length := by omega
                  have hn1 : ¬ (t.sees.length : Int) < t.sees.length := by omega
                  have HO6 := HO.out
                  rw [List.take_length, ← Hl1.out] at HO6
                  have HO7 := Lib.hid HO6
                  have htn1 : tn + 1 ≤ 9223372036854775807 := by omega
                  clear HO HO6
                  go_wp2_with fail
                  go_roundw
                  case rel => exact ⟨k + 1, by go_num, by have := Htn.out; go_num, by omega, HO7.out, ho⟩
                  case measure => simp [intOf]; omega
        · obtain rfl : k = T.length := by omega
          have hk1 : ¬ (T.length : Int) < T.length := by omega
          rw [← mns_succ HTi.out] at hown
          have hts := totK_succ HTi.out
          have HO := Lib.hid hown
          have Hts := Lib.hid hts
          clear hown hts
          go_wp2_with fail
          go_roundw
          case rel => exact ⟨i + 1, by go_num, by rw [Hts.out], by omega, HO.out, ho⟩
          case measure => simp [intOf]; omega
    · obtain rfl : i = S.length := by omega
      have hi1 : ¬ (S.length : Int) < S.length := by omega
      go_wp2_with fail
      go_ret
      exact ⟨⟨_, rfl, hown⟩, ho⟩
end Go.Proofs.YtohngjkedhpikaaGreatDoor
