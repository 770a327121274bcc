/-
  A PIECE's REFERENCE: the document's found, block.
-/
import Derived.Test.YtkaoipegbjmlnaaDoorZRefsW
import Derived.Test.YtkaoipegbjmlnaaDoorZRefsU
import Derived.Test.YtkaoipegbjmlnaaDoorZLinkI
import Derived.StillTailTactics
namespace Go.Proofs.YtkaoipegbjmlnaaDoor
open Go.RowKit
attribute [local go_sem] Old.refl Old.alloc Old.drew Old.setCell OldW.old

theorem str_beqD (x y : ByteArray) : (x.toList == y.toList) = decide (x = y) := by
  rw [ByteArray.toList_eq, ByteArray.toList_eq, Bool.eq_iff_iff, beq_iff_eq, decide_eq_true_iff]
  constructor
  · intro h; exact ByteArray.ext (Array.toList_inj.1 h)
  · rintro rfl; rfl
theorem idx_first {dir : List Nm} {n : ByteArray} {i : Nat} {d : Nm} (hd : dir[i]? = some d) (e : d.norm = n) (h : idx (dir.take i) n = none) : idx dir n = some i := by
  have hi : i < dir.length := (List.getElem?_eq_some_iff.1 hd).1
  have h2 : idx (dir.take i ++ d :: dir.drop (i + 1)) n = some i := by
    unfold idx at h ⊢
    rw [List.findIdx?_append, h, List.findIdx?_cons, if_pos (decide_eq_true e)]
    simp [List.length_take]
    omega
  rwa [← drop_at hd, List.take_append_drop] at h2
theorem idx_next {dir : List Nm} {n : ByteArray} {i : Nat} {d : Nm} (hd : dir[i]? = some d) (e : ¬ d.norm = n) (h : idx (dir.take i) n = none) : idx (dir.take (i + 1)) n = none := by
  rw [take_at' hd, idx_snoc, h]
  dsimp only
  rw [if_neg e]
def fnd (dir : List Nm) (s : ByteArray) : Option Nat := if (normR s).2 = 0 then idx dir (normR s).1 else none
def fndI : Option Nat → Int
  | some k => k
  | none => -1
set_option maxRecDepth 100000 in
set_option maxHeartbeats 1600000 in
theorem found_any (dir : List Nm) (vd : Value) (s : ByteArray) (w : World) (hd : Recs nmE w vd dir) :
    Calls Tryd.prog 24 #[vd, .string s] w fun e w' => e = .returned (.int .i64 (fndI (fnd dir s))) ∧ Old w w' := by
  have HN := Lib.hid (RNorm8_any s w)
  have HF : Hid (fnd dir s = if (normR s).2 = 0 then idx dir (normR s).1 else none) := Lib.hid rfl
  generalize fnd dir s = J at *
  generalize normR s = nr at *
  obtain ⟨n, ne⟩ := nr
  obtain ⟨ad, cd, rfl, hc1, hc2⟩ := hd.form
  obtain ⟨bd, od, had, hatd⟩ := hd.nm
  have Had := Lib.hid had
  have Hatd := Lib.hid hatd
  clear hd had hatd
  by_cases h0 : ne = 0
  · have hj : J = idx dir n := HF.out.trans (if_pos h0)
    subst hj
    subst h0
    have HN' : Hid _ := HN
    rw [show (((n, (0 : Int)) : ByteArray × Int).2 == 0) = true from rfl] at HN'
    clear HF HN
    go_enter Tryd.func24, Tryd.ntmps24
    go_wp2_with fail
    refine HN'.out.mono ?_
    rintro e w1 ⟨rfl, o1⟩
    go_wp2_with fail
    go_loopw [7] (fun j wr => ∃ i : Nat, j = .int .i64 i ∧ i ≤ dir.length ∧ idx (dir.take i) n = none ∧ w1 = wr) (fun j _ => dir.length - (intOf j).toNat)
    case atStart => exact ⟨0, rfl, Nat.zero_le _, rfl, rfl⟩
    case round =>
      obtain ⟨i, rfl, hi, hno, rfl⟩ := hrel
      have Hno := Lib.hid hno
      clear hno
      by_cases hlt : i < dir.length
      · have hi1 : (i : Int) < dir.length := by omega
        obtain ⟨d, hd⟩ : ∃ d, dir[i]? = some d := ⟨_, List.getElem?_eq_getElem hlt⟩
        have c1 := (Hatd.out i d hd w1 o1).2.1
        obtain rfl := Had.out (by omega)
        have hsb := str_beqD d.norm n
        have Hd := Lib.hid hd
        clear hd
        by_cases e : d.norm = n
        · rw [decide_eq_true e] at hsb
          have Hk := Lib.hid (idx_first Hd.out e Hno.out)
          clear e
          go_wp2_with fail
          go_ret
          exact ⟨by rw [Hk.out]; rfl, o1⟩
        · rw [decide_eq_false e] at hsb
          have Hk := Lib.hid (idx_next Hd.out e Hno.out)
          clear e
          go_wp2_with fail
          go_roundw
          case rel => exact ⟨i + 1, by go_num, by omega, Hk.out, by first | rfl | trivial⟩
          case measure => simp [intOf]; omega
      · have hiD : i = dir.length := by omega
        subst hiD
        have hi1 : ¬ (dir.length : Int) < dir.length := by omega
        rw [List.take_length] at Hno
        go_wp2_with fail
        go_ret
        exact ⟨by rw [Hno.out]; rfl, o1⟩
  · have hj : J = none := HF.out.trans (if_neg h0)
    have hb : (ne == 0) = false := by rw [beq_eq_false_iff_ne]; exact h0
    subst hj
    have HN' : Hid _ := HN
    rw [show (((n, ne) : ByteArray × Int).2 == 0) = false from hb] at HN'
    clear HF HN h0 hb
    go_enter Tryd.func24, Tryd.ntmps24
    go_wp2_with fail
    refine HN'.out.mono ?_
    rintro e w1 ⟨rfl, o1⟩
    go_wp2_with fail
    go_loopw [7] (fun j wr => j = .int .i64 0 ∧ w1 = wr) (fun j _ => 0)
    case atStart => exact ⟨rfl, rfl⟩
    case round =>
      obtain ⟨rfl, rfl⟩ := hrel
      by_cases hlt : 0 < dir.length
      · have hi1 : (0 : Int) < dir.length := by omega
        go_wp2_with fail
        go_ret
        exact ⟨rfl, o1⟩
      · have hi1 : ¬ (0 : Int) < dir.length := by omega
        go_wp2_with fail
        go_ret
        exact ⟨rfl, o1⟩
theorem OwnS.set_low {α : Type} {c : Enc α} {E : TypeId} {w0 w : World} {v u : Value} {t : List α} {b o : Nat} (h : OwnS c E w0 w v t) (hb : b < w0.heap.size) : OwnS c E w0 (w.setCell ⟨b, o, none⟩ u) v t :=
  h.kept (grown_set _ _ _ _) (.inr fun e => by have := (World.ownsRow.lt h b e).1; omega)
def wrgC (f : Flt) : Array Value := #[.int .i64 f.code, .int .i64 f.src, .int .i64 f.line, .int .i64 f.col, .string f.word]
def noF : Flt := ⟨0, 0, 0, 0, ⟨#[]⟩⟩
/-- references, or the fault -/
def RetR (w w' : World) (R : Res) (e : Ending) : Prop :=
  (∃ l u, R = .ok l ∧ e = .returned (.tuple #[u, .agg (wrgC noF)]) ∧ OwnS rfE 43 w w' u l) ∨ ∃ f, R = .error f ∧ e = .returned (.tuple #[.slice none 0 0, .agg (wrgC f)])
theorem judge_fnd {dir : List Nm} {p : Pc} : judge dir p = match fnd dir p.name with | none => .error 80 | some k => if dir[k]?.map Nm.kind = some (noteI p) then .ok k else .error 81 := by
  unfold judge fnd
  by_cases h : (normR p.name).2 = 0
  · rw [if_pos h, if_pos h]; cases idx dir (normR p.name).1 <;> rfl
  · rw [if_neg h, if_neg h]
theorem fnd_some {dir : List Nm} {s : ByteArray} {k : Nat} (h : fnd dir s = some k) : ∃ d, dir[k]? = some d ∧ k < dir.length := by
  unfold fnd at h
  split at h
  · obtain ⟨d, hd, _⟩ := idx_some h
    exact ⟨d, hd, idx_lt h⟩
  · cases h
theorem goP_at {dir : List Nm} {fr src i : Nat} {P : List Pc} {p : Pc} (h : P[i]? = some p) (acc : List Rfr) (K : List Rfr → Res) : goP dir fr src (P.drop i) acc K = if refB p = true then
      match judge dir p with
      | .error c => .error ⟨c, src, p.line, p.col, p.name⟩
      | .ok k => goP dir fr src (P.drop (i + 1)) (acc ++ [⟨fr, k, noteI p, p.name, p.line, p.col⟩]) K
    else goP dir fr src (P.drop (i + 1)) acc K := by
  rw [drop_at h]; rfl
set_option maxRecDepth 100000 in
set_option maxHeartbeats 3200000 in
theorem block_any (kd : Int) (ap : Option Addr) (cp : Nat) (P : List Pc) (dir : List Nm) (vd : Value) (fr src : Nat) (w : World) (hp : Recs inE w (.slice ap P.length cp) P) (hd : Recs nmE w vd dir) (hP : P.length ≤ 2199023255552) (hcp : P.length ≤ cp) (hcp2 : cp ≤ 9223372036854775807) :
    Calls Tryd.prog 15 #[.agg #[.int .i64 kd, .int .i64 0, .string ⟨#[]⟩, .slice none 0 0, .slice ap P.length cp, .int .i64 0], vd, .int .i64 fr, .int .i64 src] w fun e w' => RetR w w' (goP dir fr src P [] .ok) e ∧ Old w w' := by
  have HF := Lib.hid (fun V (o : Old w V) (s : ByteArray) => found_any dir vd s V (hd.old o))
  obtain ⟨ad, cd, rfl, hc1, hc2⟩ := hd.form
  obtain ⟨bd, od, had, hatd⟩ := hd.nm
  have Had := Lib.hid had
  have Hatd := Lib.hid hatd
  obtain ⟨bp, op, hap, hapt⟩ := Ins.open hp
  have Hap := Lib.hid hap
  have Hapt := Lib.hid hapt
  have HR0 := Lib.hid (show goP dir fr src P [] .ok = goP dir fr src (P.drop 0) [] .ok from rfl)
  generalize hR : goP dir fr src P [] .ok = R at *
  clear hd hp had hatd hap hapt hR
  go_enter Tryd.func15, Tryd.ntmps15
  go_wp2_with fail
  have o2 : Old w ((w.alloc (.cells #[.int .i64 kd, .int .i64 0, .string ⟨#[]⟩, .slice none 0 0, .slice ap P.length cp, .int .i64 0] 62)).alloc (.cells #[.int .i64 0, .int .i64 0, .int .i64 0, .int .i64 0, .string ⟨#[]⟩] 32)) := ((Old.refl w).alloc _).alloc _
  have hsz : ((w.alloc (.cells #[.int .i64 kd, .int .i64 0, .string ⟨#[]⟩, .slice none 0 0, .slice ap P.length cp, .int .i64 0] 62)).alloc (.cells #[.int .i64 0, .int .i64 0, .int .i64 0, .int .i64 0, .string ⟨#[]⟩] 32)).heap.size = w.heap.size + 2 := by simp [go_sem]
  have e4 := later (w := ((w.alloc (.cells #[.int .i64 kd, .int .i64 0, .string ⟨#[]⟩, .slice none 0 0, .slice ap P.length cp, .int .i64 0] 62)).alloc (.cells #[.int .i64 0, .int .i64 0, .int .i64 0, .int .i64 0, .string ⟨#[]⟩] 32))) (p := ⟨w.heap.size, 4, none⟩) (v := .slice ap P.length cp) (by simp [go_sem])
  have x0 := later (w := ((w.alloc (.cells #[.int .i64 kd, .int .i64 0, .string ⟨#[]⟩, .slice none 0 0, .slice ap P.length cp, .int .i64 0] 62)).alloc (.cells #[.int .i64 0, .int .i64 0, .int .i64 0, .int .i64 0, .string ⟨#[]⟩] 32))) (p := ⟨w.heap.size + 1, 0, none⟩) (v := .int .i64 0) (by simp [go_sem])
  have x1 := later (w := ((w.alloc (.cells #[.int .i64 kd, .int .i64 0, .string ⟨#[]⟩, .slice none 0 0, .slice ap P.length cp, .int .i64 0] 62)).alloc (.cells #[.int .i64 0, .int .i64 0, .int .i64 0, .int .i64 0, .string ⟨#[]⟩] 32))) (p := ⟨w.heap.size + 1, 1, none⟩) (v := .int .i64 0) (by simp [go_sem])
  have x2 := later (w := ((w.alloc (.cells #[.int .i64 kd, .int .i64 0, .string ⟨#[]⟩, .slice none 0 0, .slice ap P.length cp, .int .i64 0] 62)).alloc (.cells #[.int .i64 0, .int .i64 0, .int .i64 0, .int .i64 0, .string ⟨#[]⟩] 32))) (p := ⟨w.heap.size + 1, 2, none⟩) (v := .int .i64 0) (by simp [go_sem])
  have x3 := later (w := ((w.alloc (.cells #[.int .i64 kd, .int .i64 0, .string ⟨#[]⟩, .slice none 0 0, .slice ap P.length cp, .int .i64 0] 62)).alloc (.cells #[.int .i64 0, .int .i64 0, .int .i64 0, .int .i64 0, .string ⟨#[]⟩] 32))) (p := ⟨w.heap.size + 1, 3, none⟩) (v := .int .i64 0) (by simp [go_sem])
  have x4 := later (w := ((w.alloc (.cells #[.int .i64 kd, .int .i64 0, .string ⟨#[]⟩, .slice none 0 0, .slice ap P.length cp, .int .i64 0] 62)).alloc (.cells #[.int .i64 0, .int .i64 0, .int .i64 0, .int .i64 0, .string ⟨#[]⟩] 32))) (p := ⟨w.heap.size + 1, 4, none⟩) (v := .string ⟨#[]⟩) (by simp [go_sem])
  have xf : ∀ j, ((w.alloc (.cells #[.int .i64 kd, .int .i64 0, .string ⟨#[]⟩, .slice none 0 0, .slice ap P.length cp, .int .i64 0] 62)).alloc (.cells #[.int .i64 0, .int .i64 0, .int .i64 0, .int .i64 0, .string ⟨#[]⟩] 32)).frozen? ⟨w.heap.size + 1, j, none⟩ = false := fun j => by simp [go_sem]
  generalize (w.alloc (.cells #[.int .i64 kd, .int .i64 0, .string ⟨#[]⟩, .slice none 0 0, .slice ap P.length cp, .int .i64 0] 62)).alloc (.cells #[.int .i64 0, .int .i64 0, .int .i64 0, .int .i64 0, .string ⟨#[]⟩] 32) = w2 at *
  have E4 := Lib.hid e4
  have Hsz := Lib.hid hsz
  have X0 := Lib.hid x0
  have X1 := Lib.hid x1
  have X2 := Lib.hid x2
  have X3 := Lib.hid x3
  have X4 := Lib.hid x4
  have XF := Lib.hid xf
  clear e4 x0 x1 x2 x3 x4 xf
  go_loopw [10, 11] (fun x j wr => ∃ (m : Nat) (acc : List Rfr), j = .int .i64 m ∧ m ≤ P.length ∧ acc.length ≤ m ∧ goP dir fr src (P.drop m) acc .ok = R ∧ OwnS rfE 43 w2 wr x acc ∧ Old w2 wr) (fun _ j _ => P.length - (intOf j).toNat)
  case atStart => exact ⟨0, [], rfl, Nat.zero_le _, Nat.le_refl _, HR0.out.symm, OwnS.nil _ _ _ _, Old.refl _⟩
  case round =>
    obtain ⟨m, acc, rfl, hm, hacc, hR, hown, ho⟩ := hrel
    have HR := Lib.hid hR
    have Hown := Lib.hid hown
    have c4 : ∀ V, Old wr V → V.cell? ⟨w.heap.size, 4, none⟩ = some (.slice ap P.length cp) := fun V o => E4.out V (ho.trans o)
    clear hR hown HR0
    by_cases hlt : m < P.length
    · have hm1 : (m : Int) < P.length := by omega
      obtain ⟨p, hpm⟩ : ∃ p, P[m]? = some p := ⟨_, List.getElem?_eq_getElem hlt⟩
      have hcs := fun V (o : Old wr V) => Hapt.out m p hpm V ((o2.trans ho).trans o)
      obtain rfl := Hap.out (by omega)
      have k0 : ∀ V, Old wr V → V.cell? ⟨bp, op + m * 5, none⟩ = some (.int .i64 p.kind) := fun V o => (hcs V o).1
      have k1 : ∀ V, Old wr V → V.cell? ⟨bp, op + m * 5 + 1, none⟩ = some (.string ⟨#[]⟩) := fun V o => (hcs V o).2.1
      have k2 : ∀ V, Old wr V → V.cell? ⟨bp, op + m * 5 + 2, none⟩ = some (.string p.name) := fun V o => (hcs V o).2.2.1
      have k3 : ∀ V, Old wr V → V.cell? ⟨bp, op + m * 5 + 3, none⟩ = some (.int .i64 p.line) := fun V o => (hcs V o).2.2.2.1
      have k4 : ∀ V, Old wr V → V.cell? ⟨bp, op + m * 5 + 4, none⟩ = some (.int .i64 p.col) := fun V o => (hcs V o).2.2.2.2
      have Hgo := Lib.hid (goP_at (dir := dir) (fr := fr) (src := src) hpm acc .ok)
      have Hrb := Lib.hid (show refB p = (p.kind == 3 || p.kind == 4) from rfl)
      clear hcs hpm
      by_cases hrf : p.kind = 3 ∨ p.kind = 4
      · rcases hrf with h3 | h4
        · have hb3 : (p.kind != 3) = false := by rw [h3]; rfl
          have hb4 : (p.kind == 4) = false := by rw [h3]; rfl
          have hrb : refB p = true := by rw [Hrb.out, h3]; rfl
          have Hrb2 := Lib.hid hrb
          have Hnote : Hid (noteI p = 0) := Lib.hid (by unfold noteI; rw [if_neg (by rw [h3]; decide)])
          clear h3 hrb
          go_wp2_with fail
          refine (HF.out _ ((o2.trans ho).alloc _) p.name).mono ?_
          rintro e w3 ⟨rfl, o3⟩
          have oq : Old wr w3 := ((Old.refl wr).alloc _).trans o3
          have p0 := later (o3.cell (p := ⟨wr.heap.size, 0, none⟩) (v := .int .i64 p.kind) (by simp [go_sem]))
          have p2 := later (o3.cell (p := ⟨wr.heap.size, 2, none⟩) (v := .string p.name) (by simp [go_sem]))
          have p3 := later (o3.cell (p := ⟨wr.heap.size, 3, none⟩) (v := .int .i64 p.line) (by simp [go_sem]))
          have p4 := later (o3.cell (p := ⟨wr.heap.size, 4, none⟩) (v := .int .i64 p.col) (by simp [go_sem]))
          have oR : Old w2 w3 := ho.trans oq
          have z0 : ∀ V, Old w3 V → V.cell? ⟨w.heap.size + 1, 0, none⟩ = some (.int .i64 0) := fun V o => X0.out V (oR.trans o)
          have z1 : ∀ V, Old w3 V → V.cell? ⟨w.heap.size + 1, 1, none⟩ = some (.int .i64 0) := fun V o => X1.out V (oR.trans o)
          have z2 : ∀ V, Old w3 V → V.cell? ⟨w.heap.size + 1, 2, none⟩ = some (.int .i64 0) := fun V o => X2.out V (oR.trans o)
          have z3 : ∀ V, Old w3 V → V.cell? ⟨w.heap.size + 1, 3, none⟩ = some (.int .i64 0) := fun V o => X3.out V (oR.trans o)
          have z4 : ∀ V, Old w3 V → V.cell? ⟨w.heap.size + 1, 4, none⟩ = some (.string ⟨#[]⟩) := fun V o => X4.out V (oR.trans o)
          have zf : ∀ j, w3.frozen? ⟨w.heap.size + 1, j, none⟩ = false := fun j => by rw [frozen_old oR (show w.heap.size + 1 < w2.heap.size by rw [Hsz.out]; exact Nat.lt_succ_self _)]; exact XF.out j
          have hJ := judge_fnd (dir := dir) (p := p)
          have hown3 := Hown.out.old oq
          clear k0 k1 k2 k3 k4 c4
          cases hfd : fnd dir p.name with
          | none =>
            rw [hfd] at hJ
            dsimp only at hJ
            have HJ := Lib.hid hJ
            clear hfd hJ
            rw [show fndI none = (-1 : Int) from rfl]
            go_wp2_with fail
            refine wp_region_still_tail 9 (by kernel_rfl) (by kernel_rfl) ?_
            simp only [List.take_succ_cons, List.take_zero, List.drop_succ_cons, List.drop_zero]
            repeat still_step
            refine wpStill_nil ?_
            go_wp2_with fail
            have y0 := z0 w3 (Old.refl _)
            have y1 := z1 w3 (Old.refl _)
            have y2 := z2 w3 (Old.refl _)
            have y3 := z3 w3 (Old.refl _)
            have y4 := z4 w3 (Old.refl _)
            refine bodyPost_ret (v := .tuple #[.slice none 0 0, .agg (wrgC ⟨80, src, p.line, p.col, p.name⟩)]) (by simp [results, Tryd.results15, go_sem, y0, y1, y2, y3, y4, wrgC]) rfl ⟨.inr ⟨⟨80, src, p.line, p.col, p.name⟩, by rw [← HR.out, Hgo.out, Hrb2.out, HJ.out]; rfl, rfl⟩, ?_⟩
            exact ((((((o2.trans oR).setCell (Nat.le_succ _) _).setCell (Nat.le_succ _) _).setCell (Nat.le_succ _) _).setCell (Nat.le_succ _) _).setCell (Nat.le_succ _) _).drew
          | some k =>
            rw [hfd] at hJ
            dsimp only at hJ
            obtain ⟨d, hd, hk⟩ := fnd_some hfd
            have hdk := (Hatd.out k d hd w3 (((o2.trans ho)).trans oq)).2.2.2.2.1
            have hki : (k : Int) < dir.length := by omega
            have hk0 : ¬ (k : Int) < 0 := by omega
            obtain rfl := Had.out (by omega)
            rw [hd] at hJ
            have hJ' : judge dir p = if d.kind = 0 then .ok k else .error 81 := by
              rw [hJ, Hnote.out]
              show (if some d.kind = some _ then _ else _) = _
              by_cases e : d.kind = 0
              · rw [if_pos e, if_pos (by rw [e])]
              · rw [if_neg e, if_neg (fun h => e (Option.some.inj h))]
            clear hfd hd hJ
            rw [show fndI (some k) = (k : Int) from rfl]
            by_cases hkd : d.kind = 0
            · have hbk : (d.kind != 0) = false := by rw [hkd]; rfl
              rw [if_pos hkd] at hJ'
              have HJ := Lib.hid hJ'
              clear hJ' hkd
              go_wp2_with (at_builtin; go_loud (refine wpList_append_recs (c := rfE) (w0 := w2) rfl _ _ 24 rfl 43 Tryd.underlying24 _ infoRf rfl (Nat.zero_lt_succ 5) _ acc [⟨fr, k, 0, p.name, p.line, p.col⟩] rfl (hown3.alloc _) _ rfl (Recs.oneAt (c := rfE) _ 43 ⟨fr, k, 0, p.name, p.line, p.col⟩ (by simp [go_sem])) (by simp; omega) (by simp; omega) (oR.alloc _) ?_); intro v5 w5 hown5 ho5 _)
              go_roundw
              case rel => exact ⟨m + 1, _, by go_num, by omega, by simp; omega, by rw [← HR.out, Hgo.out, Hrb2.out, HJ.out, Hnote.out]; rfl, hown5, ho5⟩
              case measure => simp [intOf]; omega
            · have hbk : (d.kind != 0) = true := by rw [bne_iff_ne]; exact hkd
              rw [if_neg hkd] at hJ'
              have HJ := Lib.hid hJ'
              clear hJ' hkd
              go_wp2_with fail
              refine wp_region_still_tail 9 (by kernel_rfl) (by kernel_rfl) ?_
              simp only [List.take_succ_cons, List.take_zero, List.drop_succ_cons, List.drop_zero]
              repeat still_step
              refine wpStill_nil ?_
              go_wp2_with fail
              have y0 := z0 w3 (Old.refl _)
              have y1 := z1 w3 (Old.refl _)
              have y2 := z2 w3 (Old.refl _)
              have y3 := z3 w3 (Old.refl _)
              have y4 := z4 w3 (Old.refl _)
              refine bodyPost_ret (v := .tuple #[.slice none 0 0, .agg (wrgC ⟨81, src, p.line, p.col, p.name⟩)]) (by simp [results, Tryd.results15, go_sem, y0, y1, y2, y3, y4, wrgC]) rfl ⟨.inr ⟨⟨81, src, p.line, p.col, p.name⟩, by rw [← HR.out, Hgo.out, Hrb2.out, HJ.out]; rfl, rfl⟩, ?_⟩
              exact ((((((o2.trans oR).setCell (Nat.le_succ _) _).setCell (Nat.le_succ _) _).setCell (Nat.le_succ _) _).setCell (Nat.le_succ _) _).setCell (Nat.le_succ _) _).drew
        · have hb3 : (p.kind != 3) = true := by rw [h4]; rfl
          have hb5 : (p.kind != 4) = false := by rw [h4]; rfl
          have hb4 : (p.kind == 4) = true := by rw [h4]; rfl
          have hrb : refB p = true := by rw [Hrb.out, h4]; rfl
          have Hrb2 := Lib.hid hrb
          have Hnote : Hid (noteI p = 1) := Lib.hid (by unfold noteI; rw [if_pos h4])
          clear h4 hrb
          go_wp2_with fail
          refine (HF.out _ ((o2.trans ho).alloc _) p.name).mono ?_
          rintro e w3 ⟨rfl, o3⟩
          have oq : Old wr w3 := ((Old.refl wr).alloc _).trans o3
          have p0 := later (o3.cell (p := ⟨wr.heap.size, 0, none⟩) (v := .int .i64 p.kind) (by simp [go_sem]))
          have p2 := later (o3.cell (p := ⟨wr.heap.size, 2, none⟩) (v := .string p.name) (by simp [go_sem]))
          have p3 := later (o3.cell (p := ⟨wr.heap.size, 3, none⟩) (v := .int .i64 p.line) (by simp [go_sem]))
          have p4 := later (o3.cell (p := ⟨wr.heap.size, 4, none⟩) (v := .int .i64 p.col) (by simp [go_sem]))
          have oR : Old w2 w3 := ho.trans oq
          have z0 : ∀ V, Old w3 V → V.cell? ⟨w.heap.size + 1, 0, none⟩ = some (.int .i64 0) := fun V o => X0.out V (oR.trans o)
          have z1 : ∀ V, Old w3 V → V.cell? ⟨w.heap.size + 1, 1, none⟩ = some (.int .i64 0) := fun V o => X1.out V (oR.trans o)
          have z2 : ∀ V, Old w3 V → V.cell? ⟨w.heap.size + 1, 2, none⟩ = some (.int .i64 0) := fun V o => X2.out V (oR.trans o)
          have z3 : ∀ V, Old w3 V → V.cell? ⟨w.heap.size + 1, 3, none⟩ = some (.int .i64 0) := fun V o => X3.out V (oR.trans o)
          have z4 : ∀ V, Old w3 V → V.cell? ⟨w.heap.size + 1, 4, none⟩ = some (.string ⟨#[]⟩) := fun V o => X4.out V (oR.trans o)
          have zf : ∀ j, w3.frozen? ⟨w.heap.size + 1, j, none⟩ = false := fun j => by rw [frozen_old oR (show w.heap.size + 1 < w2.heap.size by rw [Hsz.out]; exact Nat.lt_succ_self _)]; exact XF.out j
          have hJ := judge_fnd (dir := dir) (p := p)
          have hown3 := Hown.out.old oq
          clear k0 k1 k2 k3 k4 c4
          cases hfd : fnd dir p.name with
          | none =>
            rw [hfd] at hJ
            dsimp only at hJ
            have HJ := Lib.hid hJ
            clear hfd hJ
            rw [show fndI none = (-1 : Int) from rfl]
            go_wp2_with fail
            refine wp_region_still_tail 9 (by kernel_rfl) (by kernel_rfl) ?_
            simp only [List.take_succ_cons, List.take_zero, List.drop_succ_cons, List.drop_zero]
            repeat still_step
            refine wpStill_nil ?_
            go_wp2_with fail
            have y0 := z0 w3 (Old.refl _)
            have y1 := z1 w3 (Old.refl _)
            have y2 := z2 w3 (Old.refl _)
            have y3 := z3 w3 (Old.refl _)
            have y4 := z4 w3 (Old.refl _)
            refine bodyPost_ret (v := .tuple #[.slice none 0 0, .agg (wrgC ⟨80, src, p.line, p.col, p.name⟩)]) (by simp [results, Tryd.results15, go_sem, y0, y1, y2, y3, y4, wrgC]) rfl ⟨.inr ⟨⟨80, src, p.line, p.col, p.name⟩, by rw [← HR.out, Hgo.out, Hrb2.out, HJ.out]; rfl, rfl⟩, ?_⟩
            exact ((((((o2.trans oR).setCell (Nat.le_succ _) _).setCell (Nat.le_succ _) _).setCell (Nat.le_succ _) _).setCell (Nat.le_succ _) _).setCell (Nat.le_succ _) _).drew
          | some k =>
            rw [hfd] at hJ
            dsimp only at hJ
            obtain ⟨d, hd, hk⟩ := fnd_some hfd
            have hdk := (Hatd.out k d hd w3 (((o2.trans ho)).trans oq)).2.2.2.2.1
            have hki : (k : Int) < dir.length := by omega
            have hk0 : ¬ (k : Int) < 0 := by omega
            obtain rfl := Had.out (by omega)
            rw [hd] at hJ
            have hJ' : judge dir p = if d.kind = 1 then .ok k else .error 81 := by
              rw [hJ, Hnote.out]
              show (if some d.kind = some _ then _ else _) = _
              by_cases e : d.kind = 1
              · rw [if_pos e, if_pos (by rw [e])]
              · rw [if_neg e, if_neg (fun h => e (Option.some.inj h))]
            clear hfd hd hJ
            rw [show fndI (some k) = (k : Int) from rfl]
            by_cases hkd : d.kind = 1
            · have hbk : (d.kind != 1) = false := by rw [hkd]; rfl
              rw [if_pos hkd] at hJ'
              have HJ := Lib.hid hJ'
              clear hJ' hkd
              go_wp2_with (at_builtin; go_loud (refine wpList_append_recs (c := rfE) (w0 := w2) rfl _ _ 24 rfl 43 Tryd.underlying24 _ infoRf rfl (Nat.zero_lt_succ 5) _ acc [⟨fr, k, 1, p.name, p.line, p.col⟩] rfl (hown3.alloc _) _ rfl (Recs.oneAt (c := rfE) _ 43 ⟨fr, k, 1, p.name, p.line, p.col⟩ (by simp [go_sem])) (by simp; omega) (by simp; omega) (oR.alloc _) ?_); intro v5 w5 hown5 ho5 _)
              go_roundw
              case rel => exact ⟨m + 1, _, by go_num, by omega, by simp; omega, by rw [← HR.out, Hgo.out, Hrb2.out, HJ.out, Hnote.out]; rfl, hown5, ho5⟩
              case measure => simp [intOf]; omega
            · have hbk : (d.kind != 1) = true := by rw [bne_iff_ne]; exact hkd
              rw [if_neg hkd] at hJ'
              have HJ := Lib.hid hJ'
              clear hJ' hkd
              go_wp2_with fail
              refine wp_region_still_tail 9 (by kernel_rfl) (by kernel_rfl) ?_
              simp only [List.take_succ_cons, List.take_zero, List.drop_succ_cons, List.drop_zero]
              repeat still_step
              refine wpStill_nil ?_
              go_wp2_with fail
              have y0 := z0 w3 (Old.refl _)
              have y1 := z1 w3 (Old.refl _)
              have y2 := z2 w3 (Old.refl _)
              have y3 := z3 w3 (Old.refl _)
              have y4 := z4 w3 (Old.refl _)
              refine bodyPost_ret (v := .tuple #[.slice none 0 0, .agg (wrgC ⟨81, src, p.line, p.col, p.name⟩)]) (by simp [results, Tryd.results15, go_sem, y0, y1, y2, y3, y4, wrgC]) rfl ⟨.inr ⟨⟨81, src, p.line, p.col, p.name⟩, by rw [← HR.out, Hgo.out, Hrb2.out, HJ.out]; rfl, rfl⟩, ?_⟩
              exact ((((((o2.trans oR).setCell (Nat.le_succ _) _).setCell (Nat.le_succ _) _).setCell (Nat.le_succ _) _).setCell (Nat.le_succ _) _).setCell (Nat.le_succ _) _).drew
      · have hb3 : (p.kind != 3) = true := by rw [bne_iff_ne]; exact fun h => hrf (.inl h)
        have hb4 : (p.kind != 4) = true := by rw [bne_iff_ne]; exact fun h => hrf (.inr h)
        have hrb : refB p = false := by rw [Hrb.out, Bool.or_eq_false_iff, beq_eq_false_iff_ne, beq_eq_false_iff_ne]; exact ⟨fun h => hrf (.inl h), fun h => hrf (.inr h)⟩
        have Hrb2 := Lib.hid hrb
        clear hrf hrb
        go_wp2_with fail
        go_roundw
        case rel => exact ⟨m + 1, acc, by go_num, by omega, by omega, by rw [← HR.out, Hgo.out, Hrb2.out]; rfl, Hown.out.old ((Old.refl _).alloc _), ho.alloc _⟩
        case measure => simp [intOf]; omega
    · have hmP : m = P.length := by omega
      subst hmP
      have hm1 : ¬ (P.length : Int) < P.length := by omega
      rw [List.drop_length] at HR
      have y0 := X0.out wr ho
      have y1 := X1.out wr ho
      have y2 := X2.out wr ho
      have y3 := X3.out wr ho
      have y4 := X4.out wr ho
      have zf : ∀ j, wr.frozen? ⟨w.heap.size + 1, j, none⟩ = false := fun j => by rw [frozen_old ho (show w.heap.size + 1 < w2.heap.size by rw [Hsz.out]; exact Nat.lt_succ_self _)]; exact XF.out j
      have hszw : w.heap.size ≤ w2.heap.size := by rw [Hsz.out]; omega
      have hbw : w.heap.size + 1 < w2.heap.size := by rw [Hsz.out]; exact Nat.lt_succ_self _
      go_wp2_with fail
      refine bodyPost_ret (v := .tuple #[u10, .agg (wrgC noF)]) (by simp [results, Tryd.results15, go_sem, y0, y1, y2, y3, y4, wrgC, noF]) rfl ⟨.inl ⟨acc, u10, HR.out.symm, rfl, ?_⟩, ?_⟩
      · exact (((((Hown.out.set_low hbw).set_low hbw).set_low hbw).set_low hbw).set_low hbw).lower hszw
      · exact (((((o2.trans ho).setCell (Nat.le_succ _) _).setCell (Nat.le_succ _) _).setCell (Nat.le_succ _) _).setCell (Nat.le_succ _) _).setCell (Nat.le_succ _) _
end Go.Proofs.YtkaoipegbjmlnaaDoor
