/-
  KEYWORD, QL: the document's less.
-/
import Derived.Test.YtohngjkedhpikaaGreatDoorZKwQ
import Derived.Test.YtohngjkedhpikaaGreatDoorZTextRefI
import Derived.Test.YtohngjkedhpikaaGreatDoorZKwA
import Derived.DeepKeys4
import Derived.Test.YtohngjkedhpikaaGreatDoorZTextCodesD
import Derived.Deep.RegionHeld3
namespace Go.Proofs.YtohngjkedhpikaaGreatDoor
open Go.RowKit
attribute [local go_sem] Old.refl Old.alloc Old.drew Old.setCell OldW.old

theorem lexL_nil_left {α : Type} (f : α → α → Int) (l : List α) : lexL f [] l = if l = [] then 0 else -1 := by
  cases l <;> simp [lexL]
theorem lexL_nil_two {α : Type} (f : α → α → Int) (l : List α) : lexL f [] l = 0 ∨ lexL f [] l = -1 := by
  cases l <;> simp [lexL]
theorem compareT_nil {b : ByteArray} (h : ¬ b = noB) : compareT noB b = -1 := by
  have h0 : ¬ compareT noB b = 0 := fun e => h (compareT_zero.1 e).symm
  have h1 : elsS noB = [] := by
    unfold elsS
    rw [elsGo_end (by decide)]
  have h2 : runesI noB = [] := by
    unfold runesI
    rw [charsAt_end (by decide)]
    rfl
  have k1 := lexL_nil_two cmpEl (elsS b)
  have k2 := lexL_nil_two (byF smallC) (runesI b)
  have k3 := lexL_nil_two (byF id) (runesI b)
  have k4 : Lib.compareBytes noB.data.toList b.data.toList = 0 ∨ Lib.compareBytes noB.data.toList b.data.toList = -1 := by
    rw [bytes_lex]
    exact lexL_nil_two _ _
  have e : compareT noB b = if lexL cmpEl [] (elsS b) = 0 then (if lexL (byF smallC) [] (runesI b) = 0 then (if lexL (byF id) [] (runesI b) = 0 then Lib.compareBytes noB.data.toList b.data.toList else lexL (byF id) [] (runesI b)) else lexL (byF smallC) [] (runesI b)) else lexL cmpEl [] (elsS b) := by
    rw [compareT_eq, ← h1, ← h2]
    rfl
  rw [e] at h0 ⊢
  split at h0 <;> (try split at h0) <;> (try split at h0) <;> simp_all <;> omega
theorem compareT_nil' {b : ByteArray} (h : ¬ b = noB) : compareT b noB = 1 := by
  have h1 := compareT_nil h
  have h2 := compareT_anti noB b
  omega
set_option maxRecDepth 100000 in
set_option maxHeartbeats 1600000 in
theorem RLess_any (t s u v : ByteArray) (w : World) (h1 : t.size ≤ 4194304) (h2 : s.size ≤ 4194304) (h3 : u.size ≤ 4194304) (h4 : v.size ≤ 4194304) (g1 : (foldS t).size ≤ 4194304) (g2 : (foldS s).size ≤ 4194304) (g3 : (foldS u).size ≤ 4194304) (g4 : (foldS v).size ≤ 4194304) :
    Calls Tryz.prog 109 #[.string t, .string s, .string u, .string v] w fun e w' => e = .returned (.int .i64 (cmpP (foldS t, foldS s) (foldS u, foldS v))) ∧ Old w w' := by
  have F1 := Lib.hid (fun V => RFold_any t V h1)
  have F2 := Lib.hid (fun V => RFold_any s V h2)
  have F3 := Lib.hid (fun V => RFold_any u V h3)
  have F4 := Lib.hid (fun V => RFold_any v V h4)
  have C1 := Lib.hid (fun V => RCompare_any (foldS t) (foldS u) V g1 g3)
  have C2 := Lib.hid (fun V => RCompare_any (foldS s) (foldS v) V g2 g4)
  have HC : Hid (cmpP (foldS t, foldS s) (foldS u, foldS v) = if compareT (foldS t) (foldS u) = 0 then compareT (foldS s) (foldS v) else compareT (foldS t) (foldS u)) := Lib.hid rfl
  have Z1 : Hid (foldS s = foldS v → compareT (foldS s) (foldS v) = 0) := Lib.hid fun h => compareT_zero.2 h
  have Z2 : Hid (¬ foldS v = noB → foldS s = noB → compareT (foldS s) (foldS v) = -1) := Lib.hid fun h k => by rw [k]; exact compareT_nil h
  have Z3 : Hid (¬ foldS s = noB → foldS v = noB → compareT (foldS s) (foldS v) = 1) := Lib.hid fun h k => by rw [k]; exact compareT_nil' h
  generalize cmpP (foldS t, foldS s) (foldS u, foldS v) = R at *
  generalize compareT (foldS t) (foldS u) = x at *
  generalize compareT (foldS s) (foldS v) = y at *
  generalize foldS t = ft at *
  generalize foldS s = fs at *
  generalize foldS u = fu at *
  generalize foldS v = fv at *
  by_cases hx : x = 0
  · obtain rfl : R = y := by rw [HC.out, if_pos hx]
    subst hx
    clear HC
    by_cases e : fs = fv
    · obtain rfl : R = 0 := Z1.out e
      have hb : (fs.toList == fv.toList) = true := by rw [str_beq]; simpa using e
      clear e Z1 Z2 Z3
      go_enter Tryz.func109, Tryz.ntmps109
      go_wp2_with fail
      refine (F1.out _).mono ?_
      rintro e w1 ⟨rfl, o1⟩
      go_wp2_with fail
      refine (F3.out _).mono ?_
      rintro e w2 ⟨rfl, o2⟩
      go_wp2_with fail
      refine (C1.out _).mono ?_
      rintro e w3 ⟨rfl, o3⟩
      go_wp2_with fail
      refine (F2.out _).mono ?_
      rintro e w4 ⟨rfl, o4⟩
      go_wp2_with fail
      refine (F4.out _).mono ?_
      rintro e w5 ⟨rfl, o5⟩
      go_wp2_with fail
      go_ret
      exact ⟨rfl, (((o1.trans o2).trans o3).trans o4).trans o5⟩
    · have hb : (fs.toList == fv.toList) = false := by rw [str_beq]; simpa using e
      by_cases n1 : fs = noB
      · have n2 : ¬ fv = noB := fun k => e (n1.trans k.symm)
        have hn2 := str_nilK n2
        obtain rfl : R = -1 := Z2.out n2 n1
        obtain rfl : fs = ⟨#[]⟩ := n1
        clear e Z1 Z2 Z3 n2
        go_enter Tryz.func109, Tryz.ntmps109
        go_wp2_with fail
        refine (F1.out _).mono ?_
        rintro e w1 ⟨rfl, o1⟩
        go_wp2_with fail
        refine (F3.out _).mono ?_
        rintro e w2 ⟨rfl, o2⟩
        go_wp2_with fail
        refine (C1.out _).mono ?_
        rintro e w3 ⟨rfl, o3⟩
        go_wp2_with fail
        refine (F2.out _).mono ?_
        rintro e w4 ⟨rfl, o4⟩
        go_wp2_with fail
        refine (F4.out _).mono ?_
        rintro e w5 ⟨rfl, o5⟩
        go_wp2_with fail
        go_ret
        exact ⟨rfl, (((o1.trans o2).trans o3).trans o4).trans o5⟩
      · have hn := str_nilK n1
        by_cases n2 : fv = noB
        · obtain rfl : R = 1 := Z3.out n1 n2
          obtain rfl : fv = ⟨#[]⟩ := n2
          clear e Z1 Z2 Z3 n1
          go_enter Tryz.func109, Tryz.ntmps109
          go_wp2_with fail
          refine (F1.out _).mono ?_
          rintro e w1 ⟨rfl, o1⟩
          go_wp2_with fail
          refine (F3.out _).mono ?_
          rintro e w2 ⟨rfl, o2⟩
          go_wp2_with fail
          refine (C1.out _).mono ?_
          rintro e w3 ⟨rfl, o3⟩
          go_wp2_with fail
          refine (F2.out _).mono ?_
          rintro e w4 ⟨rfl, o4⟩
          go_wp2_with fail
          refine (F4.out _).mono ?_
          rintro e w5 ⟨rfl, o5⟩
          go_wp2_with fail
          go_ret
          exact ⟨rfl, (((o1.trans o2).trans o3).trans o4).trans o5⟩
        · have hn2 := str_nilK n2
          clear e Z1 Z2 Z3 n1 n2
          go_enter Tryz.func109, Tryz.ntmps109
          go_wp2_with fail
          refine (F1.out _).mono ?_
          rintro e w1 ⟨rfl, o1⟩
          go_wp2_with fail
          refine (F3.out _).mono ?_
          rintro e w2 ⟨rfl, o2⟩
          go_wp2_with fail
          refine (C1.out _).mono ?_
          rintro e w3 ⟨rfl, o3⟩
          go_wp2_with fail
          refine (F2.out _).mono ?_
          rintro e w4 ⟨rfl, o4⟩
          go_wp2_with fail
          refine (F4.out _).mono ?_
          rintro e w5 ⟨rfl, o5⟩
          go_wp2_with fail
          refine (C2.out _).mono ?_
          rintro e w6 ⟨rfl, o6⟩
          go_wp2_with fail
          go_ret
          exact ⟨rfl, ((((o1.trans o2).trans o3).trans o4).trans o5).trans o6⟩
  · obtain rfl : R = x := by rw [HC.out, if_neg hx]
    have hb : (R != 0) = true := by simpa using hx
    clear HC hx Z1 Z2 Z3
    go_enter Tryz.func109, Tryz.ntmps109
    go_wp2_with fail
    refine (F1.out _).mono ?_
    rintro e w1 ⟨rfl, o1⟩
    go_wp2_with fail
    refine (F3.out _).mono ?_
    rintro e w2 ⟨rfl, o2⟩
    go_wp2_with fail
    refine (C1.out _).mono ?_
    rintro e w3 ⟨rfl, o3⟩
    go_wp2_with fail
    go_ret
    exact ⟨rfl, (o1.trans o2).trans o3⟩
end Go.Proofs.YtohngjkedhpikaaGreatDoor
/-
  KEYWORD, K: places as a map's keys.
-/


namespace Go.Proofs.YtohngjkedhpikaaGreatDoor
open Go.RowKit Go.Maps

def plV (p : Pl) : Value := .agg #[.string p.1, .string p.2]
theorem plV_inj {p q : Pl} (h : plV p = plV q) : p = q := by
  unfold plV at h
  injection h with h
  have h := congrArg Array.toList h
  simp at h
  exact Prod.ext h.1 h.2
theorem laidOutK : laidOutB Tryz.prog = true := by kernel_rfl
theorem plWide : (match Tryz.prog.underlying 89 with | some (.array _ _) | some (.struct _) => true | _ => false) = true := by rw [Tryz.underlying89]
theorem plRow : (89 : TypeId) < Tryz.prog.types.size := of_decide_eq_true (by kernel_rfl)
theorem plDeep : Tryz.prog.keyTypeAt 2 89 = true := by kernel_rfl
set_option maxRecDepth 100000 in
theorem keyedPl : Keyed Tryz.prog 89 := Keyed.of_law (deep_law_laid laidOutK (m := 2) (by omega) plRow plDeep plWide)
theorem plType : Tryz.prog.keyType 89 = true := by kernel_rfl
theorem plCells : Tryz.prog.cellsOf 89 = 2 := by kernel_rfl
theorem strCells : Tryz.prog.cellsOf 9 = 1 := by kernel_rfl
theorem plSize : ∃ m, Tryz.prog.types.size = m + 2 := ⟨Tryz.prog.types.size - 2, by kernel_rfl⟩
theorem plForm (a b : Value) : (Value.agg #[a, b]).formed Tryz.prog 89 = true := by
  simp [Value.formed, Tryz.underlying89, plCells]
theorem keyPl (p : Pl) (h1 : p.1.size ≤ 9223372036854775807) (h2 : p.2.size ≤ 9223372036854775807) : ∃ kl, keyOf Tryz.prog 89 (plV p) = some kl := by
  obtain ⟨m, hm⟩ := plSize
  have e1 : p.1.size ≤ maxLen := by simpa [maxLen] using h1
  have e2 : p.2.size ≤ maxLen := by simpa [maxLen] using h2
  have hl : ∃ ls, Tryz.prog.keyLits (Tryz.prog.types.size + 1) 89 (plV p).cells.toList = some ls := by
    rw [hm]
    unfold plV Program.keyLits
    simp only [Tryz.underlying89, Value.cells]
    rw [if_pos ⟨by rw [plCells]; rfl, by kernel_rfl⟩, List.mapM_cons, List.mapM_cons, List.mapM_nil]
    simp [Program.keyLits, Tryz.underlying9, strCells, e1, e2]
  obtain ⟨ls, hl⟩ := hl
  unfold keyOf
  rw [Tryz.underlying89]
  simp only [plType, show (plV p).formed Tryz.prog 89 = true from plForm _ _, hl]
  exact ⟨_, rfl⟩
end Go.Proofs.YtohngjkedhpikaaGreatDoor
/-
  KEYWORD, G: whether a see is there already (gathered's closure, slices.ContainsFunc over it).
-/




namespace Go.Proofs.YtohngjkedhpikaaGreatDoor
open Go.RowKit Go.Maps
attribute [local go_sem] Old.refl Old.alloc Old.drew Old.setCell OldW.old

/-- the memo, whatever it knows, at most n texts -/
def MemoN (w : World) (b n : Nat) : Prop := ∃ F, Memo w b n F
set_option maxRecDepth 100000 in
set_option maxHeartbeats 1600000 in
theorem gathered1_any (s aim : ByteArray) (w0 w : World) (fb n bf bm : Nat) (ho : Old w0 w) (hT : Tabs w0) (hb : w0.heap.size ≤ fb) (hM : MemoN w fb n) (hn : n < 4000000000000000000) (hs : s.size ≤ 4194304) (ha : aim.size ≤ 4194304)
    (hf : w.cell? ⟨bf, 0, none⟩ = some (.map (some fb))) (hm : w.cell? ⟨bm, 5, none⟩ = some (.string aim)) (hbf : bf ≠ fb) (hbm : bm ≠ fb) :
    Calls Tryz.prog 83 #[.string s, .pointer (some ⟨bf, 0, none⟩), .pointer (some ⟨bm, 0, none⟩)] w fun e w' => e = .returned (.bool (decide (foldS s = foldS aim))) ∧ MemoN w' fb (n + 2) ∧ OldBut fb w w' := by
  obtain ⟨F, hM⟩ := hM
  have HM := Lib.hid (hM.old (Old.refl w).drew)
  have t0 := laterBut (g := fb) hf hbf
  have t1 := laterBut (g := fb) hm hbm
  have HC := Lib.hid (fun (x : ByteArray) (hx : x.size ≤ 4194304) V F' k (o : OldBut fb w V) (h : Memo V fb k F') (hk : k < 4611686018427387904) => of_any x w0 V fb k F' (o.base ho hb) hT h hk hx)
  have HO := (OldBut.refl fb w).drew
  have hk0 : n < 4611686018427387904 := by omega
  have hk1 : n + 1 < 4611686018427387904 := by omega
  have hq := Lib.hid (str_beq (foldS s) (foldS aim))
  generalize hx : foldS s = x at *
  generalize hy : foldS aim = y at *
  generalize decide (x = y) = r at *
  clear hM hf hm
  go_enter Tryz.func83, Tryz.ntmps83
  go_upto_region 1 with fail
  go_region_held3 (fun w' => w'.cell? ⟨bf, 0, none⟩ = some (.map (some fb)) ∧ w'.cell? ⟨bm, 5, none⟩ = some (.string aim)) (first | exact ⟨t0 _ HO, t1 _ HO⟩ | go_keep) (first
    | (go_at_call 48; (with_reducible refine (HC.out s hs _ _ _ HO HM.out hk0).mono ?_); rintro e w1 ⟨rfl, ⟨F1, hM1, _, _⟩, o1⟩; replace HO := HO.trans o1; have HM1 := Lib.hid hM1; clear hM1; rw [hx])
    | (go_at_call 48; (with_reducible refine (HC.out aim ha _ _ _ HO HM1.out hk1).mono ?_); rintro e w2 ⟨rfl, ⟨F2, hM2, _, _⟩, o2⟩; replace HO := HO.trans o2; rw [hy]))
  rw [hq.out]
  go_wp2_with fail
  go_ret
  exact ⟨rfl, ⟨_, hM2⟩, HO⟩
set_option maxRecDepth 100000 in
set_option maxHeartbeats 1600000 in
theorem indexFunc_any (v : Value) (l : List ByteArray) (aim : ByteArray) (w0 w : World) (fb n bf bm : Nat) (hl : RecsF txE (fun b => b = fb) w v l) (hls : ∀ s ∈ l, s.size ≤ 4194304) (ho : Old w0 w) (hT : Tabs w0) (hb : w0.heap.size ≤ fb) (hM : MemoN w fb n) (hn : n + 2 * l.length < 4000000000000000000) (ha : aim.size ≤ 4194304)
    (hf : w.cell? ⟨bf, 0, none⟩ = some (.map (some fb))) (hm : w.cell? ⟨bm, 5, none⟩ = some (.string aim)) (hbf : bf ≠ fb) (hbm : bm ≠ fb) :
    Calls Tryz.prog 116 #[v, .func (.func 83) #[] #[.pointer (some ⟨bf, 0, none⟩), .pointer (some ⟨bm, 0, none⟩)]] w fun e w' => (∃ z : Int, e = .returned (.int .i64 z) ∧ (0 ≤ z ↔ ∃ s ∈ l, foldS s = foldS aim)) ∧ MemoN w' fb (n + 2 * l.length) ∧ OldBut fb w w' := by
  obtain ⟨a, cap, b, off, rfl, hc1, hc2, ha0, hne, hcell⟩ := hl
  have Hcell : Hid (∀ (i : Nat) (x : ByteArray), l[i]? = some x → ∀ V, OldBut fb w V → V.cell? ⟨b, off + i, none⟩ = some (.string x)) := Lib.hid fun i x hx V o => by
    have hp : 0 < l.length := by have := (List.getElem?_eq_some_iff.1 hx).1; omega
    exact o.cell (hcell i (.string x) (by rw [txE_all, List.getElem?_map, hx]; rfl)) (hne hp)
  have HC := Lib.hid (fun (s : ByteArray) (hs : s.size ≤ 4194304) V k (o : OldBut fb w V) (h : MemoN V fb k) (hk : k < 4000000000000000000) => gathered1_any s aim w0 V fb k bf bm (o.base ho hb) hT hb h hk hs ha (o.cell hf hbf) (o.cell hm hbm) hbf hbm)
  have Hls := Lib.hid hls
  have Ha := Lib.hid ha0
  clear hcell hne ha0 hls hf hm ho hT
  go_enter Tryz.func116, Tryz.ntmps116
  go_wp2_with fail
  go_loopw [8] (fun j wr => ∃ (k : Nat), j = .int .i64 k ∧ k ≤ l.length ∧ MemoN wr fb (n + 2 * k) ∧ (∀ (i : Nat) (x : ByteArray), i < k → l[i]? = some x → ¬ foldS x = foldS aim) ∧ OldBut fb w wr) (fun j _ => l.length - (intOf j).toNat)
  case atStart => exact ⟨0, rfl, Nat.zero_le _, hM, fun i x hi => absurd hi (Nat.not_lt_zero i), OldBut.refl _ _⟩
  case round =>
    clear hM
    obtain ⟨k, rfl, hk, hM, hno, ho⟩ := hrel
    have HM := Lib.hid hM
    have Hno := Lib.hid hno
    clear hM hno
    by_cases hlt : k < l.length
    · have hi : (k : Int) < l.length := by omega
      obtain ⟨x, hx⟩ : ∃ x, l[k]? = some x := ⟨_, List.getElem?_eq_getElem hlt⟩
      obtain rfl := Ha.out (by omega)
      have ck := Hcell.out k x hx wr ho
      have Hx := Lib.hid hx
      have hxs := Hls.out x (List.mem_of_getElem? hx)
      have hkn : n + 2 * k < 4000000000000000000 := by omega
      clear hx
      by_cases he : foldS x = foldS aim
      · have HE := Lib.hid he
        have hd : decide (foldS x = foldS aim) = true := decide_eq_true he
        clear he
        go_wp2_with (go_at_call 83; refine (HC.out x hxs _ _ ho HM.out hkn).mono ?_; rintro e w1 ⟨rfl, hM1, o1⟩; rw [hd])
        go_ret
        exact ⟨⟨_, rfl, by constructor
                           · intro _; exact ⟨x, List.mem_of_getElem? Hx.out, HE.out⟩
                           · intro _; omega⟩, by obtain ⟨F, h⟩ := hM1; exact ⟨F, h.mono (by omega)⟩, ho.trans o1⟩
      · have HE := Lib.hid he
        have hd : decide (foldS x = foldS aim) = false := decide_eq_false he
        clear he
        go_wp2_with (go_at_call 83; refine (HC.out x hxs _ _ ho HM.out hkn).mono ?_; rintro e w1 ⟨rfl, hM1, o1⟩; rw [hd])
        have o2 := ho.trans o1
        go_roundw
        case rel => exact ⟨k + 1, by go_num, by omega, by rw [show n + 2 * (k + 1) = n + 2 * k + 2 from by omega]; exact hM1, fun i y hi hy => by
          rcases Nat.lt_or_ge i k with h | h
          · exact Hno.out i y h hy
          · obtain rfl : i = k := by omega
            obtain rfl := Option.some.inj (Hx.out.symm.trans hy)
            exact HE.out, o2⟩
        case measure => simp [intOf]; omega
    · obtain rfl : k = l.length := by omega
      have hi : ¬ (l.length : Int) < l.length := by omega
      go_wp2_with fail
      go_ret
      exact ⟨⟨_, rfl, by constructor
                         · intro h; omega
                         · rintro ⟨s, hs, e⟩
                           obtain ⟨j, hj⟩ := List.getElem?_of_mem hs
                           exact absurd e (Hno.out j s (List.getElem?_eq_some_iff.1 hj).1 hj)⟩, HM.out, ho⟩
theorem containsFunc_any (v : Value) (l : List ByteArray) (aim : ByteArray) (w0 w : World) (fb n bf bm : Nat) (hl : RecsF txE (fun b => b = fb) w v l) (hls : ∀ s ∈ l, s.size ≤ 4194304) (ho : Old w0 w) (hT : Tabs w0) (hb : w0.heap.size ≤ fb) (hM : MemoN w fb n) (hn : n + 2 * l.length < 4000000000000000000) (ha : aim.size ≤ 4194304)
    (hf : w.cell? ⟨bf, 0, none⟩ = some (.map (some fb))) (hm : w.cell? ⟨bm, 5, none⟩ = some (.string aim)) (hbf : bf ≠ fb) (hbm : bm ≠ fb) :
    Calls Tryz.prog 82 #[v, .func (.func 83) #[] #[.pointer (some ⟨bf, 0, none⟩), .pointer (some ⟨bm, 0, none⟩)]] w fun e w' => (∃ r : Bool, e = .returned (.bool r) ∧ (r = true ↔ ∃ s ∈ l, foldS s = foldS aim)) ∧ MemoN w' fb (n + 2 * l.length) ∧ OldBut fb w w' := by
  have HC := Lib.hid (indexFunc_any v l aim w0 w fb n bf bm hl hls ho hT hb hM hn ha hf hm hbf hbm)
  clear hl hls ho hT hM hf hm
  go_enter Tryz.func82, Tryz.ntmps82
  go_wp2_with fail
  refine HC.out.mono ?_
  rintro e w1 ⟨⟨z, rfl, hz⟩, hM1, o1⟩
  have Hz := Lib.hid hz
  clear hz
  by_cases h0 : 0 ≤ z
  · have Hr := Lib.hid (Hz.out.1 h0)
    clear Hz
    go_wp2_with fail
    go_ret
    exact ⟨⟨_, rfl, by simp [Hr.out]⟩, hM1, o1⟩
  · have Hr : Hid (¬ ∃ s ∈ l, foldS s = foldS aim) := Lib.hid (fun h => h0 (Hz.out.2 h))
    clear Hz
    go_wp2_with fail
    go_ret
    exact ⟨⟨_, rfl, by constructor
                       · intro h; simp at h; omega
                       · intro h; exact absurd h Hr.out⟩, hM1, o1⟩
end Go.Proofs.YtohngjkedhpikaaGreatDoor
/-
  KEYWORD, S: the entries being gathered: who owns which block; what is kept.
-/



namespace Go.Proofs.YtohngjkedhpikaaGreatDoor
open Go.RowKit Go.Maps
attribute [local go_sem] Old.refl Old.alloc Old.drew Old.setCell OldW.old

/-- all blocks but those of which X holds lie as they lay -/
structure KeptX (X : Nat → Prop) (w w' : World) : Prop where
  os : w'.os = w.os
  tape : w'.tape = w.tape
  output : w'.output = w.output
  size : w.heap.size ≤ w'.heap.size
  block : ∀ k, k < w.heap.size → ¬ X k → w'.heap[k]? = w.heap[k]?
theorem KeptX.of_old {X : Nat → Prop} {w w' : World} (o : Old w w') : KeptX X w w' := ⟨o.os, o.tape, o.output, o.size, fun k hk _ => o.block k hk⟩
theorem KeptX.of_grown {X : Nat → Prop} {w w' : World} {row : Option Nat} (h : w.grownBy w' row) (hX : ∀ g, row = some g → X g) : KeptX X w w' := ⟨h.os, h.tape, h.output, h.size, fun k hk hx => h.block k hk fun e => hx (hX k e.symm)⟩
theorem KeptX.of_but {X : Nat → Prop} {g : Nat} {w w' : World} (h : OldBut g w w') (hX : X g) : KeptX X w w' := ⟨h.os, h.tape, h.output, h.size, fun k hk hx => h.block k hk fun e => hx (e ▸ hX)⟩
theorem KeptX.trans {X : Nat → Prop} {x y z : World} (h : KeptX X x y) (k : KeptX X y z) : KeptX X x z := ⟨k.os.trans h.os, k.tape.trans h.tape, k.output.trans h.output, Nat.le_trans h.size k.size, fun i hi hx => (k.block i (Nat.lt_of_lt_of_le hi h.size) hx).trans (h.block i hi hx)⟩
theorem KeptX.mono {X Y : Nat → Prop} {w w' : World} (h : KeptX X w w') (hX : ∀ g, g < w.heap.size → X g → Y g) : KeptX Y w w' := ⟨h.os, h.tape, h.output, h.size, fun k hk hy => h.block k hk fun hx => hy (hX k hk hx)⟩
theorem KeptX.setCell {X : Nat → Prop} (w : World) (g o : Nat) (v : Value) (hX : X g) : KeptX X w (w.setCell ⟨g, o, none⟩ v) := ⟨rfl, rfl, rfl, (KeepsWalks.setCell w _ v).size, fun k _ hx => Below.heap_setCell _ _ _ k (fun e => hx (by rw [e]; exact hX))⟩
theorem KeptX.old {X : Nat → Prop} {w0 w w' : World} (h : KeptX X w w') (o : Old w0 w) (hX : ∀ g, X g → w0.heap.size ≤ g) : Old w0 w' :=
  Below.trans o (show Below w0.heap.size w w' from ⟨h.os, h.tape, h.output, h.size, fun k hk => h.block k (Nat.lt_of_lt_of_le hk o.size) fun hx => absurd (hX k hx) (by omega)⟩)
theorem KeptX.but {X : Nat → Prop} {g : Nat} {w w' : World} (h : KeptX X w w') (hX : ∀ k, k < w.heap.size → X k → k = g) : OldBut g w w' := ⟨h.os, h.tape, h.output, h.size, fun k hk hne => h.block k hk fun hx => hne (hX k hk hx)⟩
theorem ownsRow_block {w w' : World} {base e size n : Nat} {v : Value} {xs : List Value} (h : w.ownsRow base e size v n xs) (hk : ∀ g, v.ownBlock = some g → w'.heap[g]? = w.heap[g]?) : w'.ownsRow base e size v n xs := by
  obtain ⟨h1, h2⟩ := h
  refine ⟨h1, ?_⟩
  rcases h2 with h2 | ⟨g, cap, cur, rfl, hb, hg, r⟩
  · exact .inl h2
  · exact .inr ⟨g, cap, cur, rfl, hb, by rw [hk g rfl]; exact hg, r⟩
theorem MapV.block {κ : Type} {P : Program} {k : TypeId} {kv : κ → Value} {w w' : World} {b n : Nat} {F : κ → Option Value} (h : MapV P k kv w b n F) (hb : w'.heap[b]? = w.heap[b]?) : MapV P k kv w' b n F := by
  obtain ⟨D, ⟨es, clock, h1, h2⟩, h3⟩ := h
  exact ⟨D, ⟨es, clock, by rw [hb]; exact h1, h2⟩, h3⟩
/-- an entry at block b: its topics' slice, its sees' slice -/
structure EntAt (w0 w : World) (b : Nat) (tv sv : Value) (e : En) : Prop where
  base : w0.heap.size ≤ b
  obj : w.heap[b]? = some (.cells #[.string e.term, .string e.sub, tv, sv] 45 (0, 0))
  tops : OwnI 3 w0 w tv e.topics
  sees : OwnS txE 9 w0 w sv e.sees
/-- the entry's blocks are p's, and three -/
structure Owns (own : Nat → Option Pl) (p : Pl) (b : Nat) (tv sv : Value) : Prop where
  bl : own b = some p
  t : ∀ g, tv.ownBlock = some g → own g = some p ∧ g ≠ b
  s : ∀ g, sv.ownBlock = some g → own g = some p ∧ g ≠ b
  ap : ∀ g, tv.ownBlock = some g → sv.ownBlock = some g → False
theorem not_own {own : Nat → Option Pl} {g : Nat} {p : Pl} (h1 : own g = none) (h2 : own g = some p) : False := by rw [h1] at h2; cases h2
theorem EntAt.lt {w0 w : World} {b : Nat} {tv sv : Value} {e : En} (h : EntAt w0 w b tv sv e) : b < w.heap.size := (Array.getElem?_eq_some_iff.1 h.obj).1
theorem EntAt.kx {X : Nat → Prop} {w0 w W : World} {b : Nat} {tv sv : Value} {e : En} {own : Nat → Option Pl} {q : Pl} (h : EntAt w0 w b tv sv e) (ho : Owns own q b tv sv) (hk : KeptX X w W) (hX : ∀ g, own g = some q → ¬ X g) : EntAt w0 W b tv sv e :=
  ⟨h.base, by rw [hk.block b h.lt (hX b ho.bl)]; exact h.obj, ownsRow_block h.tops fun g hg => hk.block g (World.ownsRow.lt h.tops g hg).2 (hX g (ho.t g hg).1), ownsRow_block h.sees fun g hg => hk.block g (World.ownsRow.lt h.sees g hg).2 (hX g (ho.s g hg).1)⟩
theorem Owns.cong {w0 w : World} {b : Nat} {tv sv : Value} {e : En} {own own' : Nat → Option Pl} {q : Pl} (h : Owns own q b tv sv) (he : EntAt w0 w b tv sv e) (hc : ∀ g, g < w.heap.size → own' g = own g) : Owns own' q b tv sv :=
  ⟨by rw [hc b he.lt]; exact h.bl, fun g hg => by rw [hc g (World.ownsRow.lt he.tops g hg).2]; exact h.t g hg, fun g hg => by rw [hc g (World.ownsRow.lt he.sees g hg).2]; exact h.s g hg, h.ap⟩
/-- the maps, the memo, the entries -/
structure GS (w0 w : World) (fb bt bs bo n k : Nat) (T : ByteArray → Option ByteArray) (Sb : Pl → Option ByteArray) (Eo : Pl → Option En) (B : Pl → Nat) (TV SV : Pl → Value) (own : Nat → Option Pl) : Prop where
  memo : MemoN w fb n
  mt : MapV Tryz.prog 9 Value.string w bt k (fun t => (T t).map Value.string)
  ms : MapV Tryz.prog 89 plV w bs k (fun p => (Sb p).map Value.string)
  mo : MapV Tryz.prog 89 plV w bo k (fun p => (Eo p).map fun _ => .pointer (some ⟨B p, 0, none⟩))
  ent : ∀ p e, Eo p = some e → EntAt w0 w (B p) (TV p) (SV p) e ∧ Owns own p (B p) (TV p) (SV p)
  ff : own fb = none
  ft : own bt = none
  fs : own bs = none
  fo : own bo = none
  d1 : fb ≠ bt
  d2 : fb ≠ bs
  d3 : fb ≠ bo
  d4 : bt ≠ bs
  d5 : bt ≠ bo
  d6 : bs ≠ bo
variable {w0 w W : World} {fb bt bs bo n k : Nat} {T : ByteArray → Option ByteArray} {Sb : Pl → Option ByteArray} {Eo : Pl → Option En} {B : Pl → Nat} {TV SV : Pl → Value} {own : Nat → Option Pl}
theorem MemoN.lt {w : World} {b n : Nat} (h : MemoN w b n) : b < w.heap.size := by obtain ⟨F, h⟩ := h; exact h.mp.lt
theorem MemoN.block {w w' : World} {b n : Nat} (h : MemoN w b n) (hb : w'.heap[b]? = w.heap[b]?) : MemoN w' b n := by obtain ⟨F, h⟩ := h; exact ⟨F, h.mp.block hb, h.says⟩
theorem MemoN.mono {w : World} {b n m : Nat} (h : MemoN w b n) (hm : n ≤ m) : MemoN w b m := by obtain ⟨F, h⟩ := h; exact ⟨F, h.mono hm⟩
/-- what writes in none of the maps' and none of the entries' blocks -/
theorem GS.kx {X : Nat → Prop} (h : GS w0 w fb bt bs bo n k T Sb Eo B TV SV own) (hk : KeptX X w W) (hX : ∀ g, X g → g ≠ fb ∧ g ≠ bt ∧ g ≠ bs ∧ g ≠ bo ∧ own g = none) : GS w0 W fb bt bs bo n k T Sb Eo B TV SV own :=
  ⟨h.memo.block (hk.block _ h.memo.lt fun x => (hX _ x).1 rfl), h.mt.block (hk.block _ h.mt.lt fun x => (hX _ x).2.1 rfl), h.ms.block (hk.block _ h.ms.lt fun x => (hX _ x).2.2.1 rfl), h.mo.block (hk.block _ h.mo.lt fun x => (hX _ x).2.2.2.1 rfl),
    fun p e he => ⟨(h.ent p e he).1.kx (h.ent p e he).2 hk fun g hg x => not_own (hX g x).2.2.2.2 hg, (h.ent p e he).2⟩, h.ff, h.ft, h.fs, h.fo, h.d1, h.d2, h.d3, h.d4, h.d5, h.d6⟩
theorem GS.old (h : GS w0 w fb bt bs bo n k T Sb Eo B TV SV own) (o : Old w W) : GS w0 W fb bt bs bo n k T Sb Eo B TV SV own := h.kx (X := fun _ => False) (KeptX.of_old o) fun _ x => x.elim
/-- the memo alone is written -/
theorem GS.but (h : GS w0 w fb bt bs bo n k T Sb Eo B TV SV own) (o : OldBut fb w W) {m : Nat} (hm : MemoN W fb m) : GS w0 W fb bt bs bo m k T Sb Eo B TV SV own := by
  have hk := KeptX.of_but (X := fun g => g = fb) o rfl
  exact ⟨hm, h.mt.block (hk.block _ h.mt.lt (Ne.symm h.d1)), h.ms.block (hk.block _ h.ms.lt (Ne.symm h.d2)), h.mo.block (hk.block _ h.mo.lt (Ne.symm h.d3)), fun p e he => ⟨(h.ent p e he).1.kx (h.ent p e he).2 hk fun g hq x => not_own (x ▸ h.ff) hq, (h.ent p e he).2⟩,
    h.ff, h.ft, h.fs, h.fo, h.d1, h.d2, h.d3, h.d4, h.d5, h.d6⟩
/-- the terms' map alone is written -/
theorem GS.putT (h : GS w0 w fb bt bs bo n k T Sb Eo B TV SV own) (hg : w.grownBy W (some bt)) {T' : ByteArray → Option ByteArray} (hm : MapV Tryz.prog 9 Value.string W bt (k + 1) (fun t => (T' t).map Value.string)) : GS w0 W fb bt bs bo n (k + 1) T' Sb Eo B TV SV own := by
  have hk := KeptX.of_grown (X := fun g => g = bt) hg fun g e => (Option.some.inj e).symm
  exact ⟨h.memo.block (hk.block _ h.memo.lt h.d1), hm, (h.ms.block (hk.block _ h.ms.lt (Ne.symm h.d4))).mono (by omega), (h.mo.block (hk.block _ h.mo.lt (Ne.symm h.d5))).mono (by omega), fun p e he => ⟨(h.ent p e he).1.kx (h.ent p e he).2 hk fun g hq x => not_own (x ▸ h.ft) hq, (h.ent p e he).2⟩,
    h.ff, h.ft, h.fs, h.fo, h.d1, h.d2, h.d3, h.d4, h.d5, h.d6⟩
theorem GS.putS (h : GS w0 w fb bt bs bo n k T Sb Eo B TV SV own) (hg : w.grownBy W (some bs)) {S' : Pl → Option ByteArray} (hm : MapV Tryz.prog 89 plV W bs (k + 1) (fun t => (S' t).map Value.string)) : GS w0 W fb bt bs bo n (k + 1) T S' Eo B TV SV own := by
  have hk := KeptX.of_grown (X := fun g => g = bs) hg fun g e => (Option.some.inj e).symm
  exact ⟨h.memo.block (hk.block _ h.memo.lt h.d2), (h.mt.block (hk.block _ h.mt.lt h.d4)).mono (by omega), hm, (h.mo.block (hk.block _ h.mo.lt (Ne.symm h.d6))).mono (by omega), fun p e he => ⟨(h.ent p e he).1.kx (h.ent p e he).2 hk fun g hq x => not_own (x ▸ h.fs) hq, (h.ent p e he).2⟩,
    h.ff, h.ft, h.fs, h.fo, h.d1, h.d2, h.d3, h.d4, h.d5, h.d6⟩
theorem GS.mono (h : GS w0 w fb bt bs bo n k T Sb Eo B TV SV own) {m j : Nat} (hm : n ≤ m) (hj : k ≤ j) : GS w0 w fb bt bs bo m j T Sb Eo B TV SV own :=
  ⟨h.memo.mono hm, h.mt.mono hj, h.ms.mono hj, h.mo.mono hj, h.ent, h.ff, h.ft, h.fs, h.fo, h.d1, h.d2, h.d3, h.d4, h.d5, h.d6⟩
/-- a new entry: laid in block b, put into the map -/
theorem GS.new (h : GS w0 w fb bt bs bo n k T Sb Eo B TV SV own) (hb0 : w0.heap.size ≤ w.heap.size) {p : Pl} (t s : ByteArray) {b : Nat} (hb : w.heap.size = b) (hg : (w.alloc (.cells #[.string t, .string s, .slice none 0 0, .slice none 0 0] 45)).grownBy W (some bo))
    (hm : MapV Tryz.prog 89 plV W bo (k + 1) (fun q => if q = p then some (.pointer (some ⟨b, 0, none⟩)) else (Eo q).map fun _ => .pointer (some ⟨B q, 0, none⟩))) :
    GS w0 W fb bt bs bo n (k + 1) T Sb (fun q => if q = p then some ⟨t, s, [], []⟩ else Eo q) (fun q => if q = p then b else B q) (fun q => if q = p then .slice none 0 0 else TV q) (fun q => if q = p then .slice none 0 0 else SV q) (fun g => if g = b then some p else own g) := by
  subst hb
  have oA : Old w (w.alloc (.cells #[.string t, .string s, .slice none 0 0, .slice none 0 0] 45)) := (Old.refl w).alloc _
  have hA := h.old oA
  have hk := KeptX.of_grown (X := fun g => g = bo) hg fun g e => (Option.some.inj e).symm
  have l1 := h.memo.lt
  have l2 := h.mt.lt
  have l3 := h.ms.lt
  have l4 := h.mo.lt
  have hnew := heap_alloc_new w (.cells #[.string t, .string s, .slice none 0 0, .slice none 0 0] 45)
  have hlA : w.heap.size < (w.alloc (.cells #[.string t, .string s, .slice none 0 0, .slice none 0 0] 45)).heap.size := by simp
  refine ⟨hA.memo.block (hk.block _ hA.memo.lt hA.d3), (hA.mt.block (hk.block _ hA.mt.lt hA.d5)).mono (by omega), (hA.ms.block (hk.block _ hA.ms.lt hA.d6)).mono (by omega), ?_, fun q e he => ?_, ?_, ?_, ?_, ?_, h.d1, h.d2, h.d3, h.d4, h.d5, h.d6⟩
  · rw [show (fun q => ((fun q => if q = p then some (⟨t, s, [], []⟩ : En) else Eo q) q).map fun _ => Value.pointer (some ⟨(fun q => if q = p then w.heap.size else B q) q, 0, none⟩)) = (fun q => if q = p then some (Value.pointer (some ⟨w.heap.size, 0, none⟩)) else (Eo q).map fun _ => .pointer (some ⟨B q, 0, none⟩)) from by
      funext q
      by_cases e : q = p
      · simp [e]
      · simp [e]]
    exact hm
  · by_cases e1 : q = p
    · simp only [if_pos e1] at he ⊢
      obtain rfl := Option.some.inj he
      refine ⟨⟨hb0, ?_, OwnI.nil _ _ _, OwnS.nil _ _ _ _⟩, ⟨by simp [e1], fun g hg => by simp [Value.ownBlock] at hg, fun g hg => by simp [Value.ownBlock] at hg, fun g hg => by simp [Value.ownBlock] at hg⟩⟩
      rw [hk.block _ hlA (by show ¬ w.heap.size = bo; omega)]
      exact hnew
    · simp only [if_neg e1] at he ⊢
      have hc : ∀ g, g < w.heap.size → (fun g => if g = w.heap.size then some p else own g) g = own g := fun g hg => by
        show (if g = w.heap.size then some p else own g) = own g
        rw [if_neg (by omega)]
      refine ⟨(hA.ent q e he).1.kx (hA.ent q e he).2 hk fun g hq x => ?_, (h.ent q e he).2.cong (h.ent q e he).1 hc⟩
      exact not_own (x ▸ h.fo) hq
  all_goals
    show (if _ = w.heap.size then some p else own _) = none
    rw [if_neg (by omega)]
    first | exact h.ff | exact h.ft | exact h.fs | exact h.fo
/-- an entry's topics | sees grow -/
theorem GS.put {p : Pl} {e : En} (h : GS w0 w fb bt bs bo n k T Sb Eo B TV SV own) (he : Eo p = some e) (hk : KeptX (fun g => own g = some p) w W) {tv sv : Value} {e' : En} (hE : EntAt w0 W (B p) tv sv e')
    (hO : ∀ g, g < w.heap.size → (tv.ownBlock = some g ∨ sv.ownBlock = some g) → own g = some p) (hne : ∀ g, (tv.ownBlock = some g ∨ sv.ownBlock = some g) → g ≠ B p) (hap : ∀ g, tv.ownBlock = some g → sv.ownBlock = some g → False) :
    GS w0 W fb bt bs bo n k T Sb (fun q => if q = p then some e' else Eo q) B (fun q => if q = p then tv else TV q) (fun q => if q = p then sv else SV q) (fun g => if w.heap.size ≤ g then some p else own g) := by
  have l1 := h.memo.lt
  have l2 := h.mt.lt
  have l3 := h.ms.lt
  have l4 := h.mo.lt
  have hB := (h.ent p e he).1.lt
  have hno : ∀ b, own b = none → ¬ own b = some p := fun b e k => by rw [e] at k; cases k
  refine ⟨h.memo.block (hk.block _ l1 (hno _ h.ff)), h.mt.block (hk.block _ l2 (hno _ h.ft)), h.ms.block (hk.block _ l3 (hno _ h.fs)), ?_, fun q e1 hq => ?_, ?_, ?_, ?_, ?_, h.d1, h.d2, h.d3, h.d4, h.d5, h.d6⟩
  · rw [show (fun q => ((fun q => if q = p then some e' else Eo q) q).map fun _ => Value.pointer (some ⟨B q, 0, none⟩)) = (fun q => (Eo q).map fun _ => Value.pointer (some ⟨B q, 0, none⟩)) from by
      funext q
      by_cases e1 : q = p
      · simp [e1, he]
      · simp [e1]]
    exact h.mo.block (hk.block _ l4 (hno _ h.fo))
  · by_cases e2 : q = p
    · simp only [if_pos e2] at hq ⊢
      subst e2
      obtain rfl := Option.some.inj hq
      refine ⟨hE, ⟨?_, fun g hg => ⟨?_, hne g (.inl hg)⟩, fun g hg => ⟨?_, hne g (.inr hg)⟩, hap⟩⟩
      · show (if w.heap.size ≤ B q then some q else own (B q)) = some q
        rw [if_neg (by omega)]; exact (h.ent q e he).2.bl
      · show (if w.heap.size ≤ g then some q else own g) = some q
        split
        · rfl
        · exact hO g (by omega) (.inl hg)
      · show (if w.heap.size ≤ g then some q else own g) = some q
        split
        · rfl
        · exact hO g (by omega) (.inr hg)
    · simp only [if_neg e2] at hq ⊢
      have hc : ∀ g, g < w.heap.size → (fun g => if w.heap.size ≤ g then some p else own g) g = own g := fun g hg => by
        show (if w.heap.size ≤ g then some p else own g) = own g
        rw [if_neg (by omega)]
      refine ⟨(h.ent q e1 hq).1.kx (h.ent q e1 hq).2 hk fun g hg x => ?_, (h.ent q e1 hq).2.cong (h.ent q e1 hq).1 hc⟩
      rw [hg] at x
      exact e2 (Option.some.inj x)
  all_goals
    show (if w.heap.size ≤ _ then some p else own _) = none
    rw [if_neg (by omega)]
    first | exact h.ff | exact h.ft | exact h.fs | exact h.fo
end Go.Proofs.YtohngjkedhpikaaGreatDoor
