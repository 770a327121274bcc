/-
  KEYWORD: opening sources with their keys and sees; how much they have.
-/
import Derived.Test.YtohngjkedhpikaaGreatDoorZOpenD
import Derived.Test.YtohngjkedhpikaaGreatDoorZKwM
import Derived.Test.YtohngjkedhpikaaGreatDoorZKwA
import Derived.Test.YtohngjkedhpikaaGreatDoorZTextCodesD
namespace Go.Proofs.YtohngjkedhpikaaGreatDoor
open Go.RowKit Go.ChangeShapes Go.WideShapes
section
variable {H : Type} {enc : TypeId × Value → H} {P : Program} {W : World} {base : Nat} {sp : Nat → Bool} {held : Bool}
theorem slK_of {t e : TypeId} {n : Nat} {c : Value} {y : DataW H × List MemPlace} (ht : P.underlying t = some (.slice e)) (h : DataW.trod enc P W base sp held n t [c] = some y) : ∃ s : Sl, c = s.v := by
  rcases Deep.open_slice ht h with ⟨hcs, _⟩ | ⟨x', l', c', _, _, _, _, hcs, _⟩
  · exact ⟨(none, 0, 0), (List.cons.inj hcs).1⟩
  · exact ⟨(some x', l', c'), (List.cons.inj hcs).1⟩
theorem bulk_str {s : ByteArray} {y : DataW H} (h : y = .lit (.string s.data.toList)) : s.size ≤ Rows.uptoBulk y := by
  subst h
  have hs : s.data.toList.length = s.size := by simp
  simp only [Rows.uptoBulk]
  omega
theorem bulk_agg {y : DataW H} {l : List (DataW H)} {x : DataW H} (hy : y = .agg l) (hx : x ∈ l) : Rows.uptoBulk x ≤ Rows.uptoBulk y := by
  subst hy
  have := bulk_part hx
  simp only [Rows.uptoBulk]
  omega
theorem bulk_rec {d y : DataW H} {el spr : List (DataW H)} {i : Nat} (hd : d = .slice el spr) (hy : el[i]? = some y) : Rows.uptoBulk y ≤ Rows.uptoBulk d := bulk_at hd hy
end
section
variable {H : Type} {enc : TypeId × Value → H} {W : World} {base : Nat} {sp : Nat → Bool} {held : Bool}
set_option maxRecDepth 10000 in
theorem open_kqs {a : Option Addr} {len cap : Nat} {d : DataW H} {ps : List MemPlace} (h : DataW.Trod enc Tryz.prog W base sp held 34 (.slice a len cap) d ps) :
    ∃ l : List Kq, Recs kqE W (.slice a len cap) l ∧ Long d l.length ∧ ∀ x ∈ l, x.term.size ≤ Rows.uptoBulk d ∧ x.sub.size ≤ Rows.uptoBulk d := by
  obtain ⟨l, h1, h2, h3⟩ := open_recs (c := kqE) (Good := fun x y => x.term.size ≤ Rows.uptoBulk y ∧ x.sub.size ≤ Rows.uptoBulk y) Tryz.underlying34 (by kernel_rfl) (by decide) (fun cs n y hlen hy => by
    obtain ⟨xs, k, hk, hxy, _, hxl, hf⟩ := DataW.trod_struct Tryz.underlying40 hy
    have hlen : cs.length = 3 := hlen
    match xs, hxl, cs, hlen with
    | [y0, y1, y2], _, [c0, c1, c2], _ =>
      have g0 := hf 0 _ rfl
      have g1 := hf 1 _ rfl
      have g2 := hf 2 _ rfl
      have k3 : Tryz.prog.cellsOf 3 = 1 := by kernel_rfl
      have k9 : Tryz.prog.cellsOf 9 = 1 := by kernel_rfl
      simp [k3, k9] at g0 g1 g2
      obtain ⟨a0, e0, f0, _⟩ := DataW.trod_string Tryz.underlying9 g0
      obtain ⟨a1, e1, f1, _⟩ := DataW.trod_string Tryz.underlying9 g1
      obtain ⟨a2, e2, _⟩ := DataW.trod_int Tryz.underlying3 g2
      simp at e0 e1 e2
      subst e0; subst e1; subst e2
      have b0 := bulk_str (congrArg Prod.fst f0)
      have b1 := bulk_str (congrArg Prod.fst f1)
      have u0 := bulk_agg (congrArg Prod.fst hxy) (x := y0.1) (by simp)
      have u1 := bulk_agg (congrArg Prod.fst hxy) (x := y1.1) (by simp)
      exact ⟨⟨a0, a1, a2⟩, rfl, by dsimp only; omega, by dsimp only; omega⟩) h
  refine ⟨l, h1, h2, fun x hx => ?_⟩
  obtain ⟨i, hi, e⟩ := List.mem_iff_getElem.1 hx
  obtain ⟨y, hg, el, spr, hd, hy⟩ := h3 i x (by rw [List.getElem?_eq_getElem hi, e])
  have := bulk_rec hd hy
  omega
set_option maxRecDepth 10000 in
theorem open_sks {a : Option Addr} {len cap : Nat} {d : DataW H} {ps : List MemPlace} (h : DataW.Trod enc Tryz.prog W base sp held 35 (.slice a len cap) d ps) :
    ∃ l : List Sq, Recs skE W (.slice a len cap) l ∧ Long d l.length ∧ ∀ x ∈ l, x.frm.size ≤ Rows.uptoBulk d ∧ x.aim.size ≤ Rows.uptoBulk d := by
  obtain ⟨l, h1, h2, h3⟩ := open_recs (c := skE) (Good := fun x y => x.frm.size ≤ Rows.uptoBulk y ∧ x.aim.size ≤ Rows.uptoBulk y) Tryz.underlying35 (by kernel_rfl) (by decide) (fun cs n y hlen hy => by
    obtain ⟨xs, k, hk, hxy, _, hxl, hf⟩ := DataW.trod_struct Tryz.underlying78 hy
    have hlen : cs.length = 3 := hlen
    match xs, hxl, cs, hlen with
    | [y0, y1, y2], _, [c0, c1, c2], _ =>
      have g0 := hf 0 _ rfl
      have g1 := hf 1 _ rfl
      have g2 := hf 2 _ rfl
      have k3 : Tryz.prog.cellsOf 3 = 1 := by kernel_rfl
      have k9 : Tryz.prog.cellsOf 9 = 1 := by kernel_rfl
      simp [k3, k9] at g0 g1 g2
      obtain ⟨a0, e0, f0, _⟩ := DataW.trod_string Tryz.underlying9 g0
      obtain ⟨a1, e1, f1, _⟩ := DataW.trod_string Tryz.underlying9 g1
      obtain ⟨a2, e2, _⟩ := DataW.trod_int Tryz.underlying3 g2
      simp at e0 e1 e2
      subst e0; subst e1; subst e2
      have b0 := bulk_str (congrArg Prod.fst f0)
      have b1 := bulk_str (congrArg Prod.fst f1)
      have u0 := bulk_agg (congrArg Prod.fst hxy) (x := y0.1) (by simp)
      have u1 := bulk_agg (congrArg Prod.fst hxy) (x := y1.1) (by simp)
      exact ⟨⟨a0, a1, a2⟩, rfl, by dsimp only; omega, by dsimp only; omega⟩) h
  refine ⟨l, h1, h2, fun x hx => ?_⟩
  obtain ⟨i, hi, e⟩ := List.mem_iff_getElem.1 hx
  obtain ⟨y, hg, el, spr, hd, hy⟩ := h3 i x (by rw [List.getElem?_eq_getElem hi, e])
  have := bulk_rec hd hy
  omega
/-- a topic of bulk at most n -/
structure TkB (t : Tk) (n : Nat) : Prop where
  kl : t.keys.length ≤ n
  sl : t.sees.length ≤ n
  k : ∀ x ∈ t.keys, x.term.size ≤ n ∧ x.sub.size ≤ n
  s : ∀ x ∈ t.sees, x.frm.size ≤ n ∧ x.aim.size ≤ n
theorem TkB.mono {t : Tk} {n m : Nat} (h : TkB t n) (hm : n ≤ m) : TkB t m := ⟨Nat.le_trans h.kl hm, Nat.le_trans h.sl hm, fun x hx => ⟨Nat.le_trans (h.k x hx).1 hm, Nat.le_trans (h.k x hx).2 hm⟩, fun x hx => ⟨Nat.le_trans (h.s x hx).1 hm, Nat.le_trans (h.s x hx).2 hm⟩⟩
set_option maxRecDepth 10000 in
theorem open_tks {a : Option Addr} {len cap : Nat} {d : DataW H} {ps : List MemPlace} (h : DataW.Trod enc Tryz.prog W base sp held 31 (.slice a len cap) d ps) :
    ∃ l : List Tk, Seqs trE TkR W (.slice a len cap) l ∧ Long d l.length ∧ ∀ t ∈ l, TkB t (Rows.uptoBulk d) := by
  obtain ⟨l, h1, h2, h3⟩ := open_seqs (c := trE) (R := TkR) (B := fun t y => TkB t (Rows.uptoBulk y)) Tryz.underlying31 (by kernel_rfl) (by decide) (fun cs n y hlen hy => by
    obtain ⟨xs, k, hk, hxy, _, hxl, hf⟩ := DataW.trod_struct Tryz.underlying38 hy
    have hlen : cs.length = 8 := hlen
    match xs, hxl, cs, hlen with
    | [y0, y1, y2, y3, y4, y5, y6, y7], _, [c0, c1, c2, c3, c4, c5, c6, c7], _ =>
      have g0 := hf 0 _ rfl
      have g1 := hf 1 _ rfl
      have g2 := hf 2 _ rfl
      have g3 := hf 3 _ rfl
      have g4 := hf 4 _ rfl
      have g5 := hf 5 _ rfl
      have g6 := hf 6 _ rfl
      have g7 := hf 7 _ rfl
      have k3 : Tryz.prog.cellsOf 3 = 1 := by kernel_rfl
      have k9 : Tryz.prog.cellsOf 9 = 1 := by kernel_rfl
      have k62 : Tryz.prog.cellsOf 34 = 1 := by kernel_rfl
      have k63 : Tryz.prog.cellsOf 35 = 1 := by kernel_rfl
      have k64 : Tryz.prog.cellsOf 36 = 1 := by kernel_rfl
      simp [k3, k9, k62, k63, k64] at g0 g1 g2 g3 g4 g5 g6 g7
      obtain ⟨a0, e0, _⟩ := DataW.trod_int Tryz.underlying3 g0
      obtain ⟨a1, e1, _⟩ := DataW.trod_string Tryz.underlying9 g1
      obtain ⟨a2, e2, _⟩ := DataW.trod_string Tryz.underlying9 g2
      obtain ⟨a3, e3, _⟩ := DataW.trod_int Tryz.underlying3 g3
      obtain ⟨⟨a4, n4, q4⟩, rfl⟩ := slK_of Tryz.underlying34 g4
      obtain ⟨⟨a5, n5, q5⟩, rfl⟩ := slK_of Tryz.underlying35 g5
      obtain ⟨a6, rfl⟩ := slK_of Tryz.underlying36 g6
      obtain ⟨a7, e7, _⟩ := DataW.trod_int Tryz.underlying3 g7
      obtain ⟨K, hK, hKl, hKb⟩ := open_kqs (enc := enc) (a := a4) (len := n4) (cap := q4) (d := y4.1) (ps := y4.2) ⟨_, g4⟩
      obtain ⟨Z, hZ, hZl, hZb⟩ := open_sks (enc := enc) (a := a5) (len := n5) (cap := q5) (d := y5.1) (ps := y5.2) ⟨_, g5⟩
      have u4 := bulk_agg (congrArg Prod.fst hxy) (x := y4.1) (by simp)
      have u5 := bulk_agg (congrArg Prod.fst hxy) (x := y5.1) (by simp)
      simp at e0 e1 e2 e3 e7
      subst e0; subst e1; subst e2; subst e3; subst e7
      refine ⟨⟨a0, a1, a2, a3, (a4, n4, q4), (a5, n5, q5), a6, a7⟩, ⟨K, Z⟩, rfl, ⟨hK, hZ⟩, ⟨Nat.le_trans (long_bulkD hKl) u4, Nat.le_trans (long_bulkD hZl) u5, fun x hx => ?_, fun x hx => ?_⟩⟩
      · have := hKb x hx; omega
      · have := hZb x hx; omega) h
  refine ⟨l, h1, h2, fun t ht => ?_⟩
  obtain ⟨i, hi, e⟩ := List.mem_iff_getElem.1 ht
  obtain ⟨y, hy, hb⟩ := h3 i t (by rw [List.getElem?_eq_getElem hi, e])
  exact hy.mono hb
set_option maxRecDepth 10000 in
theorem open_srks {a : Option Addr} {len cap : Nat} {d : DataW H} {ps : List MemPlace} (h : DataW.Trod enc Tryz.prog W base sp held 22 (.slice a len cap) d ps) :
    ∃ S : List (List Tk), Srk W (.slice a len cap) S ∧ Long d S.length ∧ ∀ T ∈ S, T.length ≤ Rows.uptoBulk d ∧ ∀ t ∈ T, TkB t (Rows.uptoBulk d) := by
  obtain ⟨l, h1, h2, h3⟩ := open_seqs (c := srE) (R := SrR) (B := fun T y => T.length ≤ Rows.uptoBulk y ∧ ∀ t ∈ T, TkB t (Rows.uptoBulk y)) Tryz.underlying22 (by kernel_rfl) (by decide) (fun cs n y hlen hy => by
    obtain ⟨xs, k, hk, hxy, hy1, hxl, hf⟩ := DataW.trod_struct Tryz.underlying33 hy
    have hlen : cs.length = 2 := hlen
    match xs, hxl, cs, hlen with
    | [y0, y1], _, [c0, c1], _ =>
      have g0 := hf 0 _ rfl
      have g1 := hf 1 _ rfl
      have k58 : Tryz.prog.cellsOf 30 = 1 := by kernel_rfl
      have k59 : Tryz.prog.cellsOf 31 = 1 := by kernel_rfl
      simp [k58, k59] at g0 g1
      obtain ⟨a0, rfl⟩ := slK_of Tryz.underlying30 g0
      obtain ⟨⟨a1, n1, p1⟩, rfl⟩ := slK_of Tryz.underlying31 g1
      obtain ⟨T, hT, hl, hb⟩ := open_tks (enc := enc) (a := a1) (len := n1) (cap := p1) (d := y1.1) (ps := y1.2) ⟨_, g1⟩
      have u1 := bulk_agg (congrArg Prod.fst hxy) (x := y1.1) (by simp)
      exact ⟨(a0, (a1, n1, p1)), T, rfl, hT, Nat.le_trans (long_bulkD hl) u1, fun t ht => (hb t ht).mono u1⟩) h
  refine ⟨l, h1, h2, fun T hT => ?_⟩
  obtain ⟨i, hi, e⟩ := List.mem_iff_getElem.1 hT
  obtain ⟨y, hy, hb⟩ := h3 i T (by rw [List.getElem?_eq_getElem hi, e])
  exact ⟨Nat.le_trans hy.1 hb, fun t ht => (hy.2 t ht).mono hb⟩
end
/-- how much the first sources have -/
theorem mnsT_crude {n : Nat} {i : Int} {T : List Tk} {B : Nat} (h : ∀ t ∈ T, TkB t B) (b : Nat) : (mnsT n i T b).length ≤ b * (2 * B) := by
  induction b with
  | zero => simp [mnsT]
  | succ b ih =>
    rw [mnsT, List.length_append, Nat.add_mul, Nat.one_mul]
    refine Nat.add_le_add ih ?_
    cases ht : T[b]? with
    | none => simp
    | some t =>
      have := h t (List.mem_of_getElem? ht)
      have h1 := this.kl
      have h2 := this.sl
      simp only [Option.map_some, Option.getD_some, mnT, List.length_append, List.length_map]
      omega
theorem mns_crude {S : List (List Tk)} {B : Nat} (h : ∀ T ∈ S, T.length ≤ B ∧ ∀ t ∈ T, TkB t B) (a : Nat) : (mns S a).length ≤ a * (B * (2 * B)) ∧ totK S a ≤ a * B := by
  induction a with
  | zero => simp [mns, totK]
  | succ a ih =>
    rw [mns, totK, List.length_append, Nat.add_mul, Nat.one_mul, Nat.add_mul, Nat.one_mul]
    cases hT : S[a]? with
    | none =>
      rw [show S.getD a [] = [] from by simp [List.getD, hT]]
      simp only [List.length_nil, mnsT]
      omega
    | some T =>
      rw [show S.getD a [] = T from by simp [List.getD, hT]]
      obtain ⟨h1, h2⟩ := h T (List.mem_of_getElem? hT)
      have h3 := mnsT_crude (n := totK S a) (i := a) h2 T.length
      have h4 : T.length * (2 * B) ≤ B * (2 * B) := Nat.mul_le_mul_right _ h1
      omega
theorem mns_small {S : List (List Tk)} {B : Nat} (h : ∀ T ∈ S, T.length ≤ B ∧ ∀ t ∈ T, TkB t B) {c : Nat} : ∀ m ∈ mns S c, m.term.size ≤ B ∧ m.sub.size ≤ B ∧ m.aim.size ≤ B := by
  intro m hm
  obtain ⟨a, b, T, t, _, hT, ht, hmt⟩ := mem_mns.1 hm
  have hB := (h T (List.mem_of_getElem? hT)).2 t (List.mem_of_getElem? ht)
  rcases (mnT_see hmt).2.2 with ⟨_, _, k, hk, rfl⟩ | ⟨_, _, s, hs, rfl⟩
  · have := hB.k k hk
    exact ⟨this.1, this.2, Nat.zero_le _⟩
  · have := hB.s s hs
    exact ⟨this.1, Nat.zero_le _, this.2⟩
end Go.Proofs.YtohngjkedhpikaaGreatDoor
/-
  KEYWORD, N: the statements' few; Holds, holds.
-/



namespace Go.Proofs.YtohngjkedhpikaaGreatDoor
open Go.RowKit
attribute [local go_sem] Old.refl Old.alloc Old.drew Old.setCell OldW.old

/-- how many keys, sees and topics the first sources have -/
def totN (S : List (List Tk)) (i : Nat) : Nat := (mns S i).length + totK S i
set_option maxRecDepth 100000 in
set_option maxHeartbeats 1600000 in
theorem few_any (v : Value) (S : List (List Tk)) (w : World) (hv : Srk w v S) (hb : totN S S.length ≤ 4611686018427387904) :
    Calls Tryz.prog 10 #[v] w fun e w' => e = .returned (.bool (decide (totN S S.length ≤ 300) && decide (S.length ≤ 200))) ∧ Old w w' := by
  obtain ⟨a, cap, rfl, hc1, hc2⟩ := Seqs.form hv
  obtain ⟨bs, os, has, hats⟩ := Srk.open hv
  have Has := Lib.hid has
  have Hats := Lib.hid hats
  have Hb := Lib.hid hb
  clear hv has hats hb
  go_enter Tryz.func10, Tryz.ntmps10
  go_wp2_with fail
  go_loopw [3, 10] (fun x j wr => ∃ (i : Nat), j = .int .i64 i ∧ x = .int .i64 ((totN S i : Nat) : Int) ∧ i ≤ S.length ∧ Old w wr) (fun _ j _ => S.length - (intOf j).toNat)
  case atStart => exact ⟨0, rfl, rfl, Nat.zero_le _, Old.refl _⟩
  case round =>
    obtain ⟨i, rfl, rfl, hi, ho⟩ := hrel
    by_cases hlt : i < S.length
    · have hi1 : (i : Int) < S.length := by omega
      obtain ⟨T, hTi⟩ : ∃ T, S[i]? = some T := ⟨_, List.getElem?_eq_getElem hlt⟩
      obtain ⟨a0, n0, c0', ax, cx, hcs, hTs, k1, k2⟩ := Hats.out i T hTi
      obtain rfl := Has.out (by omega)
      have c0 : ∀ V, Old wr V → V.cell? ⟨bs, os + i * 2, none⟩ = some (.slice a0 n0 c0') := fun V o => (hcs V (ho.trans o)).1
      have c1 : ∀ V, Old wr V → V.cell? ⟨bs, os + i * 2 + 1, none⟩ = some (.slice ax T.length cx) := fun V o => (hcs V (ho.trans o)).2
      obtain ⟨bt, ot, hat, hatt⟩ := Trs.open hTs
      have HTi := Lib.hid hTi
      have Hat := Lib.hid hat
      have Hatt := Lib.hid hatt
      have oa : Old wr (wr.alloc (.cells #[.slice a0 n0 c0', .slice ax T.length cx] 33)) := (Old.refl wr).alloc _
      have hsucc : totN S (i + 1) = totN S i + (mnsT (totK S i) i T T.length).length + T.length := by
        unfold totN
        rw [mns_succ hTi, totK_succ hTi, List.length_append]; omega
      have hle : totN S (i + 1) ≤ 4611686018427387904 := by
        have h1 := (mns_pre S (show i + 1 ≤ S.length from hlt)).length_le
        have h2 := totK_mono S (show i + 1 ≤ S.length from hlt)
        have h3 := Hb.out
        unfold totN at h3 ⊢
        omega
      have Hsucc := Lib.hid hsucc
      rw [hsucc] at hle
      clear hcs hTs hat hatt hTi hsucc
      go_upto_region 6 with fail
      have d1 := later (show (wr.alloc (.cells #[.slice a0 n0 c0', .slice ax T.length cx] 33)).cell? ⟨wr.heap.size, 1, none⟩ = some (.slice ax T.length cx) by simp [go_sem])
      have o1 := ho.trans oa
      generalize wr.alloc (.cells #[.slice a0 n0 c0', .slice ax T.length cx] 33) = w1 at *
      generalize wr.heap.size = g1 at *
      generalize hN : totN S i = N0 at *
      clear c0 c1 ho oa hN
      go_loopw [3, 17] (fun x j wr => ∃ (k : Nat), j = .int .i64 k ∧ x = .int .i64 ((N0 + (mnsT (totK S i) i T k).length : Nat) : Int) ∧ k ≤ T.length ∧ Old w1 wr) (fun _ j _ => T.length - (intOf j).toNat)
      case atStart => exact ⟨0, rfl, rfl, Nat.zero_le _, Old.refl _⟩
      case round =>
        obtain ⟨k, rfl, rfl, hk, ho⟩ := hrel
        have ho' := o1.trans ho
        by_cases hlt2 : k < T.length
        · have hk1 : (k : Int) < T.length := by omega
          obtain ⟨t, htk⟩ : ∃ t, T[k]? = some t := ⟨_, List.getElem?_eq_getElem hlt2⟩
          obtain ⟨kd, nm, ti, lv, a4, c4', a5, c5', a6, n6, c6', ln, hcs, hK4, hK5⟩ := Hatt.out k t htk
          obtain rfl := Hat.out (by omega)
          have hst : (mnsT (totK S i) i T (k + 1)).length = (mnsT (totK S i) i T k).length + (t.keys.length + t.sees.length) := by
            rw [mnsT_succ htk, List.length_append]; simp [mnT]
          have hpre := (mnsT_pre (totK S i) (i : Int) T (show k + 1 ≤ T.length from hlt2)).length_le
          rw [hst] at hpre
          have Hst := Lib.hid hst
          have g0 : ∀ V, Old wr V → V.cell? ⟨bt, ot + k * 8, none⟩ = some (.int .i64 kd) := fun V o => (hcs V (ho'.trans o)).1
          have g1' : ∀ V, Old wr V → V.cell? ⟨bt, ot + k * 8 + 1, none⟩ = some (.string nm) := fun V o => (hcs V (ho'.trans o)).2.1
          have g2 : ∀ V, Old wr V → V.cell? ⟨bt, ot + k * 8 + 2, none⟩ = some (.string ti) := fun V o => (hcs V (ho'.trans o)).2.2.1
          have g3 : ∀ V, Old wr V → V.cell? ⟨bt, ot + k * 8 + 3, none⟩ = some (.int .i64 lv) := fun V o => (hcs V (ho'.trans o)).2.2.2.1
          have g4 : ∀ V, Old wr V → V.cell? ⟨bt, ot + k * 8 + 4, none⟩ = some (.slice a4 t.keys.length c4') := fun V o => (hcs V (ho'.trans o)).2.2.2.2.1
          have g5 : ∀ V, Old wr V → V.cell? ⟨bt, ot + k * 8 + 5, none⟩ = some (.slice a5 t.sees.length c5') := fun V o => (hcs V (ho'.trans o)).2.2.2.2.2.1
          have g6 : ∀ V, Old wr V → V.cell? ⟨bt, ot + k * 8 + 6, none⟩ = some (.slice a6 n6 c6') := fun V o => (hcs V (ho'.trans o)).2.2.2.2.2.2.1
          have g7 : ∀ V, Old wr V → V.cell? ⟨bt, ot + k * 8 + 7, none⟩ = some (.int .i64 ln) := fun V o => (hcs V (ho'.trans o)).2.2.2.2.2.2.2
          clear hcs hK4 hK5 htk hst
          generalize (mnsT (totK S i) i T k).length = q at *
          have oX := ho.alloc (.cells #[.int .i64 kd, .string nm, .string ti, .int .i64 lv, .slice a4 t.keys.length c4', .slice a5 t.sees.length c5', .slice a6 n6 c6', .int .i64 ln] 38)
          go_wp2_with fail
          go_roundw
          case rel => exact ⟨k + 1, by go_num, by rw [Hst.out]; go_num, by omega, oX⟩
          case measure => simp [intOf]; omega
        · obtain rfl : k = T.length := by omega
          have hk1 : ¬ (T.length : Int) < T.length := by omega
          have d2 := fun V (o : Old wr V) => d1 V (ho.trans o)
          generalize (mnsT (totK S i) i T T.length).length = q at *
          go_wp2_with fail
          go_roundw
          case rel => exact ⟨i + 1, by go_num, by rw [Hsucc.out]; go_num, by omega, ho'⟩
          case measure => simp [intOf]; omega
    · obtain rfl : i = S.length := by omega
      have hi1 : ¬ (S.length : Int) < S.length := by omega
      have HR : Hid (∀ x y : Bool, x = decide (totN S S.length ≤ 300) → y = decide (S.length ≤ 200) → (x && y) = (decide (totN S S.length ≤ 300) && decide (S.length ≤ 200))) := Lib.hid (by rintro x y rfl rfl; rfl)
      by_cases h1 : totN S S.length ≤ 300
      · have h1' : ((totN S S.length : Nat) : Int) ≤ 300 := by omega
        by_cases h2 : S.length ≤ 200
        · have h2' : (S.length : Int) ≤ 200 := by omega
          have Hr : Hid ((decide (totN S S.length ≤ 300) && decide (S.length ≤ 200)) = true) := Lib.hid (by simp [h1, h2])
          clear h1 h2 HR
          go_wp2_with fail
          go_ret
          exact ⟨ret_bool (by rw [Hr.out]), ho⟩
        · have h2' : ¬ (S.length : Int) ≤ 200 := by omega
          have Hr : Hid ((decide (totN S S.length ≤ 300) && decide (S.length ≤ 200)) = false) := Lib.hid (by simp [h2])
          clear h1 h2 HR
          go_wp2_with fail
          go_ret
          exact ⟨ret_bool (by rw [Hr.out]), ho⟩
      · have h1' : ¬ ((totN S S.length : Nat) : Int) ≤ 300 := by omega
        have Hr : Hid ((decide (totN S S.length ≤ 300) && decide (S.length ≤ 200)) = false) := Lib.hid (by simp [h1])
        clear h1 HR
        go_wp2_with fail
        go_ret
        exact ⟨ret_bool (by rw [Hr.out]), ho⟩
set_option maxRecDepth 100000 in
theorem Holds_any (v : Value) (l : List ByteArray) (s : ByteArray) (w : World) (hv : Txts w v l) :
    Calls Tryz.prog 22 #[v, .string s] w fun e w' => e = .returned (.bool (l.any fun x => decide (x = s))) ∧ Old w w' := by
  obtain ⟨a, cap, rfl, hc1, hc2⟩ := hv.form
  obtain ⟨b, off, ha, hat⟩ := hv.at1
  have Ha := Lib.hid ha
  have Hat := Lib.hid hat
  clear hv ha hat
  go_enter Tryz.func22, Tryz.ntmps22
  go_wp2_with fail
  go_loopw [9] (fun j wr => ∃ (k : Nat), j = .int .i64 k ∧ k ≤ l.length ∧ (∀ (i : Nat) (x : ByteArray), i < k → l[i]? = some x → ¬ x = s) ∧ Old w wr) (fun j _ => l.length - (intOf j).toNat)
  case atStart => exact ⟨0, rfl, Nat.zero_le _, fun i x hi => absurd hi (Nat.not_lt_zero i), Old.refl _⟩
  case round =>
    obtain ⟨k, rfl, hk, hno, ho⟩ := hrel
    have Hno := Lib.hid hno
    clear hno
    by_cases hlt : k < l.length
    · have hi : (k : Int) < l.length := by omega
      obtain ⟨x, hx⟩ : ∃ x, l[k]? = some x := ⟨_, List.getElem?_eq_getElem hlt⟩
      obtain rfl := Ha.out (by omega)
      have c0 := Hat.out k x hx wr ho
      by_cases he : x = s
      · have hb : (x.toList == s.toList) = true := by rw [str_beq]; simpa using he
        have Hr : Hid ((l.any fun x => decide (x = s)) = true) := Lib.hid (List.any_eq_true.2 ⟨x, List.mem_of_getElem? hx, by simpa using he⟩)
        clear he hx
        go_wp2_with fail
        go_ret
        exact ⟨ret_bool (by rw [Hr.out]), ho⟩
      · have hb : (x.toList == s.toList) = false := by rw [str_beq]; simpa using he
        have Hn : Hid (∀ (i : Nat) (y : ByteArray), i < k + 1 → l[i]? = some y → ¬ y = s) := Lib.hid fun i y hi hy => by
          rcases Nat.lt_or_ge i k with h | h
          · exact Hno.out i y h hy
          · obtain rfl : i = k := by omega
            obtain rfl := Option.some.inj (hx.symm.trans hy)
            exact he
        clear he hx
        go_wp2_with fail
        go_roundw
        case rel => exact ⟨k + 1, by go_num, by omega, Hn.out, ho⟩
        case measure => simp [intOf]; omega
    · obtain rfl : k = l.length := by omega
      have hi : ¬ (l.length : Int) < l.length := by omega
      have Hr : Hid ((l.any fun x => decide (x = s)) = false) := Lib.hid (by
        rw [List.any_eq_false]
        intro x hx
        obtain ⟨j, hj⟩ := List.getElem?_of_mem hx
        simpa using Hno.out j x (List.getElem?_eq_some_iff.1 hj).1 hj)
      go_wp2_with fail
      go_ret
      exact ⟨ret_bool (by rw [Hr.out]), ho⟩
set_option maxRecDepth 100000 in
theorem holds_any (v : Value) (l : List Int) (z : Int) (w : World) (hv : Ints w v l) :
    Calls Tryz.prog 13 #[v, .int .i64 z] w fun e w' => e = .returned (.bool (l.any fun x => decide (x = z))) ∧ Old w w' := by
  obtain ⟨a, cap, b, off, rfl, hc1, hc2, ha, hat⟩ := hv
  have Ha := Lib.hid ha
  have Hat := Lib.hid hat
  clear ha hat
  go_enter Tryz.func13, Tryz.ntmps13
  go_wp2_with fail
  go_loopw [9] (fun j wr => ∃ (k : Nat), j = .int .i64 k ∧ k ≤ l.length ∧ (∀ (i : Nat) (x : Int), i < k → l[i]? = some x → ¬ x = z) ∧ Old w wr) (fun j _ => l.length - (intOf j).toNat)
  case atStart => exact ⟨0, rfl, Nat.zero_le _, fun i x hi => absurd hi (Nat.not_lt_zero i), Old.refl _⟩
  case round =>
    obtain ⟨k, rfl, hk, hno, ho⟩ := hrel
    have Hno := Lib.hid hno
    clear hno
    by_cases hlt : k < l.length
    · have hi : (k : Int) < l.length := by omega
      obtain ⟨x, hx⟩ : ∃ x, l[k]? = some x := ⟨_, List.getElem?_eq_getElem hlt⟩
      obtain rfl := Ha.out (by omega)
      have c0 := Hat.out k hlt wr ho
      rw [show ix l k = x from by unfold ix; simp [List.getD, hx]] at c0
      by_cases he : x = z
      · have hb : (x == z) = true := by simpa using he
        have Hr : Hid ((l.any fun x => decide (x = z)) = true) := Lib.hid (List.any_eq_true.2 ⟨x, List.mem_of_getElem? hx, by simpa using he⟩)
        clear he hx
        go_wp2_with fail
        go_ret
        exact ⟨ret_bool (by rw [Hr.out]), ho⟩
      · have hb : (x == z) = false := by simpa using he
        have Hn : Hid (∀ (i : Nat) (y : Int), i < k + 1 → l[i]? = some y → ¬ y = z) := Lib.hid fun i y hi hy => by
          rcases Nat.lt_or_ge i k with h | h
          · exact Hno.out i y h hy
          · obtain rfl : i = k := by omega
            obtain rfl := Option.some.inj (hx.symm.trans hy)
            exact he
        clear he hx
        go_wp2_with fail
        go_roundw
        case rel => exact ⟨k + 1, by go_num, by omega, Hn.out, ho⟩
        case measure => simp [intOf]; omega
    · obtain rfl : k = l.length := by omega
      have hi : ¬ (l.length : Int) < l.length := by omega
      have Hr : Hid ((l.any fun x => decide (x = z)) = false) := Lib.hid (by
        rw [List.any_eq_false]
        intro x hx
        obtain ⟨j, hj⟩ := List.getElem?_of_mem hx
        simpa using Hno.out j x (List.getElem?_eq_some_iff.1 hj).1 hj)
      go_wp2_with fail
      go_ret
      exact ⟨ret_bool (by rw [Hr.out]), ho⟩
end Go.Proofs.YtohngjkedhpikaaGreatDoor
