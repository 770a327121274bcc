/-
  TEXT, ELEMENTS: of a text.
-/
import Derived.Test.YtohngjkedhpikaaGreatDoorZShelf02
import Derived.Laws.Cover4
import Derived.Test.YtohngjkedhpikaaGreatDoorZTextWords
namespace Go.Proofs.YtohngjkedhpikaaGreatDoor
open Go.RowKit
attribute [local go_sem] Old.refl Old.alloc Old.drew Old.setCell OldW.old

/-- an element: its kind, its character, its digits -/
structure El where
  k : Nat
  r : Nat
  d : ByteArray
def elE : Enc El where
  k := 3
  enc x := [.int .i64 x.k, .int .i32 x.r, .string x.d]
  len _ := rfl
  one x u hu := by
    simp only [List.mem_cons, List.not_mem_nil, or_false] at hu
    rcases hu with rfl | rfl | rfl <;> rfl
theorem infoEl : (Tryz.prog.info? 155).map (fun i => (i.zero, i.size, i.bytes)) = some (some (.agg #[.int .i64 0, .int .i32 0, .string ⟨#[]⟩]), 3, 32) := by kernel_rfl
/-- the digits from p to q, without noughts ahead -/
def trimN (s : ByteArray) (p q : Nat) : ByteArray := ⟨(Lib.trimLeftB (s.extract p q).data.toList 48).toArray⟩
theorem trim_any (s : ByteArray) (p q : Nat) (w : World) : Calls Tryz.prog 153 #[.string (s.extract p q), .string ⟨#[48]⟩] w fun e w' => e = .returned (.string (trimN s p q)) ∧ w' = w := Tryz.strings_TrimLeft_one (s.extract p q) 48 (by decide) w
def elC (x : Chr) : El := ⟨kindC x.r, x.r, ⟨#[]⟩⟩
def baseEls (r : Nat) : List El := (charsAt (baseC r).data.toList 0).map elC
def dgAt (s : ByteArray) (p : Nat) : Nat := dgN (s.data.toList.drop p)
/-- what begins at a place: its elements, and where it ends -/
def elStep (s : ByteArray) (p : Nat) : List El × Nat :=
  if 0 < dgAt s p then ([⟨1, 0, trimN s p (p + dgAt s p)⟩], p + dgAt s p)
  else (if widC (chR s.data.toList p) = 0 then [] else baseEls (chR s.data.toList p), p + chN s.data.toList p)
theorem elStep_lt (s : ByteArray) (p : Nat) : p < (elStep s p).2 := by
  unfold elStep
  split
  · show p < p + dgAt s p; omega
  · have := chN_pos s.data.toList p
    show p < p + chN s.data.toList p; omega
/-- the elements from a place on, behind those that are there -/
def elsGo (s : ByteArray) (p : Nat) (t : List El) : List El := if p < s.size then elsGo s (elStep s p).2 (t ++ (elStep s p).1) else t
termination_by s.size - p
decreasing_by have := elStep_lt s p; omega
def elsS (s : ByteArray) : List El := elsGo s 0 []
theorem elsGo_on {s : ByteArray} {p : Nat} (h : p < s.size) (t : List El) : elsGo s p t = elsGo s (elStep s p).2 (t ++ (elStep s p).1) := by rw [elsGo, if_pos h]
theorem elsGo_end {s : ByteArray} {p : Nat} (h : ¬ p < s.size) (t : List El) : elsGo s p t = t := by rw [elsGo, if_neg h]
theorem if_size {c : Prop} [Decidable c] {a b : ByteArray} (ha : a.size ≤ 4) (hb : b.size ≤ 4) : (if c then a else b).size ≤ 4 := by split <;> assumption
theorem baseC_size (r : Int) : (baseC r).size ≤ 4 := by
  unfold baseC baseS
  iterate 12 (refine if_size (Nat.le_of_ble_eq_true rfl) ?_)
  exact encode_size_le _
theorem OwnS.iterAt2 {α : Type} {c : Enc α} {E : TypeId} {w0 w : World} {v : Value} {t : List α} (h : OwnS c E w0 w v t) {k : Nat} {s : ByteArray} {pos : Nat} (pos' : Nat) (hk : w.heap[k]? = some (.stringIter s pos)) : OwnS c E w0 (w.iterAt k s pos') v t := by
  obtain ⟨h1, h2⟩ := h
  refine ⟨h1, ?_⟩
  rcases h2 with h2 | ⟨g, cap, cur, e, hb, hg, r⟩
  · exact .inl h2
  · refine .inr ⟨g, cap, cur, e, hb, ?_, r⟩
    rw [Lib.iterAt_other w k g s pos' (fun e => by subst e; rw [hg] at hk; cases hk)]
    exact hg
theorem OwnS.ne_iter {α : Type} {c : Enc α} {E : TypeId} {w0 w : World} {v : Value} {t : List α} (h : OwnS c E w0 w v t) {k : Nat} {s : ByteArray} {pos : Nat} (hk : w.heap[k]? = some (.stringIter s pos)) : v.ownBlock ≠ some k := by
  obtain ⟨h1, h2⟩ := h
  rcases h2 with ⟨rfl, _⟩ | ⟨g, cap, cur, rfl, hb, hg, r⟩
  · intro e; cases e
  · intro e
    have : g = k := by simpa [Value.ownBlock] using e
    subst this
    rw [hg] at hk; cases hk
theorem extract_toEnd (s : ByteArray) (p : Nat) : (s.extract p s.size).data.toList = s.data.toList.drop p := by
  rw [extract_list, ← str_len, List.take_length]
theorem take_app_one {α β : Type} {l : List α} {i : Nat} {x : α} (f : α → β) (h : l[i]? = some x) : (l.take (i + 1)).map f = (l.take i).map f ++ [f x] := by
  rw [List.take_succ_eq_append_getElem (List.getElem?_eq_some_iff.1 h).1, (List.getElem?_eq_some_iff.1 h).2]; simp
set_option maxRecDepth 100000 in
set_option maxHeartbeats 3200000 in
theorem elements_any (s : ByteArray) (w : World) (hT : Tabs w) (hs : s.size ≤ 4194304) :
    Calls Tryz.prog 103 #[.string s] w fun e w' => (∃ v, e = .returned v ∧ OwnS elE 155 w w' v (elsS s)) ∧ Old w w' := by
  go_enter Tryz.func103, Tryz.ntmps103
  go_wp2_with fail
  go_loopw [3, 4] (fun x i wr => ∃ (p : Nat) (t : List El), p ≤ s.size ∧ t.length ≤ 4 * p ∧ i = .int .i64 p ∧ OwnS elE 155 w wr x t ∧ Old w wr ∧ elsGo s p t = elsS s) (fun _ i _ => s.size - (intOf i).toNat)
  case atStart => exact ⟨0, [], Nat.zero_le _, Nat.zero_le _, rfl, OwnS.nil _ _ _ _, Old.refl _, rfl⟩
  case round =>
    obtain ⟨p, t, hp, htp, rfl, hown, ho, hat⟩ := hrel
    have Hat := Lib.hid hat
    have Hown := Lib.hid hown
    clear hat hown
    obtain ⟨ax, cx, rfl, hc1, hc2⟩ := Hown.out.form
    by_cases hlt : p < s.size
    · have hlt' : (p : Int) < s.size := by omega
      have hon := elsGo_on hlt t
      have hesz : (s.extract p s.size).size ≤ 140737488355328 := by have := extract_size (s := s) (p := p) (i := s.size); omega
      have hdl := dgN_le (s.data.toList.drop p)
      rw [List.length_drop, str_len] at hdl
      have HG := Lib.hid (fun V => digits_any (s.extract p s.size) V hesz)
      rw [extract_toEnd] at HG
      by_cases hd : 0 < dgAt s p
      · have hst : elStep s p = ([⟨1, 0, trimN s p (p + dgAt s p)⟩], p + dgAt s p) := if_pos hd
        rw [hst, Hat.out] at hon
        have Hon := Lib.hid hon
        have Htr := Lib.hid (fun q V => trim_any s p q V)
        unfold dgAt at hd Hon
        clear hst hon
        generalize dgN (s.data.toList.drop p) = d at *
        have hq : (p : Int) + d = ((p + d : Nat) : Int) := by omega
        have hpq : p ≤ p + d := by omega
        have hqs : p + d ≤ s.size := by omega
        have hd' : (0 : Int) < d := by omega
        generalize p + d = q at *
        go_wp2_with (first | (go_at_call 152; refine (HG.out _).mono ?_; rintro e w1 ⟨rfl, rfl⟩) | (go_at_call 153; refine (Htr.out _ _).mono ?_; rintro e w1 ⟨rfl, rfl⟩) | (at_builtin; refine wpList_append_rec1 (c := elE) (w0 := w) rfl _ _ 152 rfl 155 Tryz.underlying152 _ infoEl rfl (Nat.zero_lt_succ 2) _ t rfl (Hown.out.alloc _) w1.heap.size (⟨1, 0, trimN s p q⟩ : El) rfl (fun j u hu => by simp [go_sem]; simpa [elE] using hu) (by omega) (by omega) (by have h1 := ho.size; simp [go_sem]; omega) ?_; intro v' w4 hown4 hgr))
        have ho4 : Old w w4 := (ho.alloc _).grown hgr (fun b hb => (World.ownsRow.lt Hown.out b hb).1)
        go_roundw
        case rel => exact ⟨q, t ++ [⟨1, 0, trimN s p q⟩], hqs, by simp; omega, by go_num, hown4, ho4, Hon.out.symm⟩
        case measure => simp [intOf]; omega
      · have hst : elStep s p = (if widC (chR s.data.toList p) = 0 then [] else baseEls (chR s.data.toList p), p + chN s.data.toList p) := if_neg hd
        rw [hst, Hat.out] at hon
        have hd0 : dgN (s.data.toList.drop p) = 0 := by unfold dgAt at hd; omega
        rw [hd0] at HG
        have hn1 := chN_pos s.data.toList p
        have hn2 := chN_le (l := s.data.toList) (p := p) (by rw [str_len]; exact hlt)
        rw [str_len] at hn2
        have hr0 := chR_le s.data.toList p
        have HD := Lib.hid (fun V (o : Old w V) => decode_any s V (hT.old o) p hlt)
        have HW := Lib.hid (fun V => Width_any (chR s.data.toList p) V (by omega))
        have HB := Lib.hid (fun V => Base_any (chR s.data.toList p) V (by omega))
        have Hsz := Lib.hid (baseC_size (chR s.data.toList p))
        have hwc := widC_cases (chR s.data.toList p)
        have Hon := Lib.hid hon
        have Hbe := Lib.hid (show baseEls (chR s.data.toList p) = (charsAt (baseC (chR s.data.toList p)).data.toList 0).map elC from rfl)
        clear hon hst hdl hd hd0
        generalize baseEls (chR s.data.toList p) = B at *
        generalize baseC (chR s.data.toList p : Int) = bs at *
        generalize chR s.data.toList p = R at *
        generalize chN s.data.toList p = n at *
        generalize widC R = W at *
        have hq : (p : Int) + n = ((p + n : Nat) : Int) := by omega
        have hpq : p < p + n := by omega
        generalize p + n = q at *
        by_cases hW : W = 0
        · subst hW
          rw [if_pos rfl, List.append_nil] at Hon
          go_wp2_with (first | (go_at_call 152; refine (HG.out _).mono ?_; rintro e w1 ⟨rfl, rfl⟩) | (go_at_call 97; refine (HD.out _ ho).mono ?_; rintro e w1 ⟨rfl, ho1⟩) | (go_at_call 154; refine (HW.out _).mono ?_; rintro e w2 ⟨rfl, ho2⟩))
          go_roundw
          case rel => exact ⟨q, t, hn2, by omega, by go_num, (Hown.out.old ho1).old ho2, (ho.trans ho1).trans ho2, Hon.out.symm⟩
          case measure => simp [intOf]; omega
        · rw [if_neg hW] at Hon
          have hW' : ((W : Int) == 0) = false := by rw [beq_eq_false_iff_ne]; omega
          go_wp2_with (first | (go_at_call 152; refine (HG.out _).mono ?_; rintro e w1 ⟨rfl, rfl⟩) | (go_at_call 97; refine (HD.out _ ho).mono ?_; rintro e w1 ⟨rfl, ho1⟩) | (go_at_call 154; refine (HW.out _).mono ?_; rintro e w2 ⟨rfl, ho2⟩) | (go_at_call 155; refine (HB.out _).mono ?_; rintro e w3 ⟨rfl, rfl⟩))
          have hoi : Old w (w2.alloc (.stringIter bs 0)) := ((ho.trans ho1).trans ho2).alloc _
          have hwk : w.heap.size ≤ w2.heap.size := ((ho.trans ho1).trans ho2).size
          have hbs := Hsz.out
          go_loopw [3] (fun x wq => ∃ (pos : Nat) (u : List El), pos ≤ bs.size ∧ u.length ≤ pos ∧ wq.heap[w2.heap.size]? = some (.stringIter bs pos) ∧ OwnS elE 155 w wq x (t ++ u) ∧ Old w wq ∧ u ++ (charsAt bs.data.toList pos).map elC = B) (fun _ wq => bs.size - wq.iterPos w2.heap.size)
          case atStart => exact ⟨0, [], Nat.zero_le _, Nat.zero_le _, by simpa using World.iter_heap w2 bs 0, by rw [List.append_nil]; exact ((Hown.out.old ho1).old ho2).alloc _, hoi, Hbe.out.symm⟩
          case round =>
            obtain ⟨pos, u, hps, hul, hit, hown, hoq, hat⟩ := hrel
            have Hat := Lib.hid hat
            have Hown2 := Lib.hid hown
            clear hat hown
            obtain ⟨ax, cx, rfl, hc1, hc2⟩ := Hown2.out.form
            have hlen : (t ++ u).length = t.length + u.length := List.length_append
            rw [hlen] at hc1 ⊢
            by_cases hpl : pos < bs.size
            · have hnx : ∀ ty, (Instr.next (.pointer (some ⟨w2.heap.size, 0, none⟩)) true ty).run Tryz.prog wr = _ := fun ty => next_at wr w2.heap.size bs pos ty hit hpl
              have hm1 := chN_pos bs.data.toList pos
              have hm2 := chN_le (l := bs.data.toList) (p := pos) (by rw [str_len]; exact hpl)
              rw [str_len] at hm2
              have Hon2 := Lib.hid (charsAt_on (l := bs.data.toList) (p := pos) (by rw [str_len]; exact hpl))
              have hit2 := Lib.iterAt_heap wr w2.heap.size bs pos (pos + chN bs.data.toList pos) hit
              have ho5 := hoq.iterAt hwk bs (pos + chN bs.data.toList pos)
              have hown5 := Hown2.out.iterAt2 (pos + chN bs.data.toList pos) hit
              rw [hlen] at hown5
              have Hown5 := Lib.hid hown5
              have hc0 := chR_le bs.data.toList pos
              have HK := Lib.hid (fun V => kindOf_any (chR bs.data.toList pos) V)
              have Hel := Lib.hid (show elC ⟨chR bs.data.toList pos, pos, chN bs.data.toList pos, badC bs.data.toList pos⟩ = ⟨kindC (chR bs.data.toList pos), chR bs.data.toList pos, ⟨#[]⟩⟩ from rfl)
              generalize wr.iterAt w2.heap.size bs (pos + chN bs.data.toList pos) = w5 at *
              clear hown5
              generalize kindC (chR bs.data.toList pos) = K at *
              generalize badC bs.data.toList pos = bb at *
              generalize chR bs.data.toList pos = c at *
              generalize chN bs.data.toList pos = m at *
              have hws : w.heap.size ≤ w5.heap.size := ho5.size
              go_wp2_with (first | (go_at_call 156; refine (HK.out _).mono ?_; rintro e w6 ⟨rfl, rfl⟩) | (at_builtin; refine wpList_append_rec1 (c := elE) (w0 := w) rfl _ _ 152 rfl 155 Tryz.underlying152 _ infoEl rfl (Nat.zero_lt_succ 2) _ (t ++ u) rfl (Hown5.out.alloc _) w5.heap.size (⟨K, c, ⟨#[]⟩⟩ : El) rfl (fun j u hu => by simp [go_sem]; simpa [elE] using hu) (by rw [hlen]; omega) (by rw [hlen]; omega) (by simp [go_sem]; omega) ?_; intro v' w4 hown4 hgr))
              have ho4 : Old w w4 := (ho5.alloc _).grown hgr (fun b hb => (World.ownsRow.lt Hown5.out b hb).1)
              have hk5 : w2.heap.size < w5.heap.size := (Array.getElem?_eq_some_iff.1 hit2).1
              have hit4 : w4.heap[w2.heap.size]? = some (.stringIter bs (pos + m)) := by
                rw [hgr.block w2.heap.size (by simp [go_sem]; omega) (fun e => Hown5.out.ne_iter hit2 e.symm), ((Old.refl w5).alloc _).block _ hk5]
                exact hit2
              go_roundw
              case rel => exact ⟨pos + m, u ++ [⟨K, c, ⟨#[]⟩⟩], hm2, by simp; omega, hit4, by rw [← List.append_assoc]; exact hown4, ho4, by rw [← Hat.out, Hon2.out, List.map_cons, Hel.out, List.append_assoc]; rfl⟩
              case measure => simp only [World.iterPos, hit4, hit]; omega
            · have Hend := Lib.hid (charsAt_end (l := bs.data.toList) (p := pos) (by rw [str_len]; exact hpl))
              have hnx : ∀ ty, (Instr.next (.pointer (some ⟨w2.heap.size, 0, none⟩)) true ty).run Tryz.prog wr = _ := fun ty => Lib.run_next_end_at wr w2.heap.size bs pos ty hit hpl
              have hu : u = B := by rw [← Hat.out, Hend.out]; simp
              have Hown6 := Lib.hid Hown2.out
              rw [hlen] at Hown6
              go_wp2_with fail
              go_roundw
              case rel => exact ⟨q, t ++ u, hn2, by rw [hlen]; omega, by go_num, Hown6.out, hoq, by rw [hu]; exact Hon.out.symm⟩
              case measure => simp [intOf]; omega
    · obtain rfl : p = s.size := by omega
      have Hend := Lib.hid (elsGo_end (s := s) (p := s.size) hlt t)
      go_wp2_with fail
      go_ret
      exact ⟨⟨_, rfl, by rw [← Hat.out, Hend.out]; exact Hown.out⟩, ho⟩
end Go.Proofs.YtohngjkedhpikaaGreatDoor
/-
  SLICES OF NUMBERS OF ANY KIND, over no program: as 'Ints', 'OwnI' of the ground, the kind a variable.
-/

namespace Go.Proofs.YtohngjkedhpikaaGreatDoor
open Go.RowKit
variable {k : IntKind}

def Nums (k : IntKind) (w : World) (v : Value) (l : List Int) : Prop :=
  ∃ a cap b off, v = .slice a l.length cap ∧ l.length ≤ cap ∧ cap ≤ 9223372036854775807 ∧ (0 < l.length → a = some ⟨b, off, none⟩) ∧ ∀ i, i < l.length → ∀ W, Old w W → W.cell? ⟨b, off + i, none⟩ = some (.int k (ix l i))
theorem Nums.old {w w' : World} {v : Value} {l : List Int} (h : Nums k w v l) (o : Old w w') : Nums k w' v l := by
  obtain ⟨a, cap, b, off, e, h1, h2, h3, h4⟩ := h
  exact ⟨a, cap, b, off, e, h1, h2, h3, fun i hi W hW => h4 i hi W (o.trans hW)⟩
theorem Nums.nil (w : World) : Nums k w (.slice none 0 0) [] := ⟨none, 0, 0, 0, rfl, by simp, by simp, by simp, by simp⟩
theorem Nums.mk {w : World} {b off cap : Nat} {l : List Int} (h1 : l.length ≤ cap) (h2 : cap ≤ 9223372036854775807) (h : ∀ i, i < l.length → w.cell? ⟨b, off + i, none⟩ = some (.int k (ix l i))) :
    Nums k w (.slice (some ⟨b, off, none⟩) l.length cap) l := ⟨_, cap, b, off, rfl, h1, h2, fun _ => rfl, fun i hi => later (h i hi)⟩
theorem Nums.of_row {w : World} {base e : Nat} {v : Value} {l : List Int} {n : Nat} (hn : n = l.length) (h : w.ownsRow base e 1 v n (l.map (.int k))) : Nums k w v l := by
  subst hn
  obtain ⟨hl, h⟩ := h
  rcases h with ⟨rfl, h0⟩ | ⟨g, cap, cur, rfl, hb, hg, hnc, hcm, hcs, htake⟩
  · have : l = [] := List.eq_nil_of_length_eq_zero h0
    subst this; exact Nums.nil w
  · refine Nums.mk hnc (by simpa [maxLen] using hcm) fun i hi => ?_
    have hown : w.ownsRow base e 1 (.slice (some ⟨g, 0, none⟩) l.length cap) l.length (l.map (.int k)) := ⟨hl, .inr ⟨g, cap, cur, rfl, hb, hg, hnc, hcm, hcs, htake⟩⟩
    rw [Nat.zero_add, hown.cellAt i (by omega)]
    simp [ix, List.getD, hi]
theorem Nums.one (w : World) (E : TypeId) (x : Int) : Nums k (w.alloc (.cells #[.int k x] E)) (.slice (some ⟨w.heap.size, 0, none⟩) 1 1) [x] :=
  Nums.mk (l := [x]) (cap := 1) (by simp) (by simp) (fun i hi => by
    obtain rfl : i = 0 := by simpa using hi
    simp [go_sem, ix])
def OwnN (k : IntKind) (E : TypeId) (w0 w : World) (v : Value) (l : List Int) : Prop := w.ownsRow w0.heap.size E 1 v l.length (l.map (.int k))
theorem OwnN.nums {E : TypeId} {w0 w : World} {v : Value} {l : List Int} (h : OwnN k E w0 w v l) : Nums k w v l := Nums.of_row rfl h
theorem OwnN.nil (E : TypeId) (w0 w : World) : OwnN k E w0 w (.slice none 0 0) [] := World.ownsRow_nil w _ E 1
theorem OwnN.kept {E : TypeId} {w0 w w' : World} {v : Value} {l : List Int} {row : Option Nat} (h : OwnN k E w0 w v l) (hg : w.grownBy w' row) (hne : v.ownBlock = none ∨ v.ownBlock ≠ row) : OwnN k E w0 w' v l := World.ownsRow.kept h hg hne
theorem OwnN.alloc {E : TypeId} {w0 w : World} {v : Value} {l : List Int} (h : OwnN k E w0 w v l) (o : Obj) : OwnN k E w0 (w.alloc o) v l := World.ownsRow.alloc h o
theorem OwnN.old {E : TypeId} {w0 w w' : World} {v : Value} {l : List Int} (h : OwnN k E w0 w v l) (o : Old w w') : OwnN k E w0 w' v l := by
  have hg := Old.grownBy o none
  exact World.ownsRow.kept h hg (by cases hv : v.ownBlock <;> simp)
theorem OwnN.len {E : TypeId} {w0 w : World} {a : Option Addr} {n cap : Nat} {l : List Int} (h : OwnN k E w0 w (.slice a n cap) l) : n = l.length := by
  obtain ⟨a', cap', e, _⟩ := ownsRow_form h
  simp at e
  exact e.2.1
theorem OwnN.block {E : TypeId} {w0 w : World} {a : Option Addr} {n cap : Nat} {l : List Int} (h : OwnN k E w0 w (.slice a n cap) l) (hl : 0 < l.length) : ∃ g, a = some ⟨g, 0, none⟩ ∧ w0.heap.size ≤ g ∧ g < w.heap.size := by
  obtain ⟨h1, ⟨h2, h0⟩ | ⟨g, c, cur, e, hb, hg, _⟩⟩ := h
  · omega
  · simp at e
    exact ⟨g, e.1, hb, (Array.getElem?_eq_some_iff.1 hg).1⟩
theorem OwnN.cell {E : TypeId} {w0 w : World} {g n cap : Nat} {l : List Int} (h : OwnN k E w0 w (.slice (some ⟨g, 0, none⟩) n cap) l) {j : Nat} (hk : j < l.length) : w.cell? ⟨g, j, none⟩ = some (.int k (ix l j)) := by
  obtain rfl := h.len
  rw [World.ownsRow.cellAt h j (by omega)]
  simp [ix, List.getD, hk]
theorem OwnN.frozen {E : TypeId} {w0 w : World} {g n cap : Nat} {l : List Int} (h : OwnN k E w0 w (.slice (some ⟨g, 0, none⟩) n cap) l) (j : Nat) : w.frozen? ⟨g, j, none⟩ = false := by
  obtain rfl := h.len
  exact World.ownsRow.frozenAt h j
theorem OwnN.stored {E : TypeId} {w0 w : World} {g n cap : Nat} {l : List Int} (h : OwnN k E w0 w (.slice (some ⟨g, 0, none⟩) n cap) l) (j : Nat) (x : Int) : OwnN k E w0 (w.setCell ⟨g, j, none⟩ (.int k x)) (.slice (some ⟨g, 0, none⟩) n cap) (l.set j x) := by
  obtain rfl := h.len
  have := (World.ownsRow.stored h j (.int k x)).1
  unfold OwnN
  rw [List.length_set, List.map_set]
  exact this
theorem OwnN.drew {E : TypeId} {w0 w : World} {v : Value} {l : List Int} (h : OwnN k E w0 w v l) : OwnN k E w0 w.drew v l := h
theorem Nums.form {w : World} {v : Value} {l : List Int} (h : Nums k w v l) : ∃ a cap, v = .slice a l.length cap ∧ l.length ≤ cap ∧ cap ≤ 9223372036854775807 := by
  obtain ⟨a, cap, b, off, e, h1, h2, _⟩ := h; exact ⟨a, cap, e, h1, h2⟩
theorem OwnN.lower {E : TypeId} {w0 w1 w : World} {v : Value} {l : List Int} (h : OwnN k E w1 w v l) (hs : w0.heap.size ≤ w1.heap.size) : OwnN k E w0 w v l := by
  obtain ⟨h1, h2⟩ := h
  refine ⟨h1, ?_⟩
  rcases h2 with h2 | ⟨g, cap, cur, e, hb, r⟩
  · exact .inl h2
  · exact .inr ⟨g, cap, cur, e, Nat.le_trans hs hb, r⟩
theorem OwnN.but {E : TypeId} {w0 w w' : World} {a : Option Addr} {n cap : Nat} {l : List Int} {g : Nat} (h : OwnN k E w0 w (.slice a n cap) l) (o : OldBut g w w') (hg : ∀ x, a = some x → x.block ≠ g) : OwnN k E w0 w' (.slice a n cap) l := by
  obtain ⟨h1, h2⟩ := h
  refine ⟨h1, ?_⟩
  rcases h2 with h2 | ⟨g', cap', cur, e, hb, hc, r⟩
  · exact .inl h2
  · refine .inr ⟨g', cap', cur, e, hb, ?_, r⟩
    simp at e
    rw [o.block g' (Array.getElem?_eq_some_iff.1 hc).1 (hg _ e.1)]
    exact hc
theorem OwnN.setCell_other {E : TypeId} {w0 w : World} {a : Option Addr} {n cap : Nat} {l : List Int} {g o : Nat} (h : OwnN k E w0 w (.slice a n cap) l) (v : Value) (hg : ∀ x, a = some x → x.block ≠ g) : OwnN k E w0 (w.setCell ⟨g, o, none⟩ v) (.slice a n cap) l :=
  h.but ((OldBut.refl g w).setCell o v) hg
section
variable {P : Program} {ops : Array Oper} {rest : List Oper} {o : Oper} {a : Act} {Q : Exit → Act → World → Prop}
theorem nums_one (l : List Int) : ∀ u ∈ l.map (Value.int k), u.oneCell' = true := ints_oneCell k l
theorem Nums.cells {w : World} {b off : Nat} {l : List Int} (h4 : ∀ i, i < l.length → ∀ W, Old w W → W.cell? ⟨b, off + i, none⟩ = some (.int k (ix l i))) {W : World} (hW : Old w W) :
    ∀ j u, (l.map (Value.int k))[j]? = some u → W.cell? ((⟨b, off, none⟩ : Addr).add j) = some u := by
  intro j u hu
  have hj : j < l.length := by simpa using (List.getElem?_eq_some_iff.1 hu).1
  rw [Addr.add_lit, h4 j hj W hW, ← hu]
  simp [ix, List.getD, hj]
theorem wpList_append_nums {w0 w : World} (hgd : o.guard = none) (s x : Operand) (T : TypeId) (ho : o.op = .call { callee := .builtin .append, args := #[s, x], argTypes := #[T, T] })
    (E : TypeId) (ht : P.underlying T = some (.slice E)) {bytes : Nat} (hinfo : (P.info? E).map (fun i => (i.zero, i.size, i.bytes)) = some (some (.int k 0), 1, bytes))
    (v : Value) (l u : List Int) (hs : a.eval s = v) (hown : OwnN k E w0 w v l) (vx : Value) (hx : a.eval x = vx) (hu : Nums k w vx u)
    (h63 : l.length + u.length ≤ 9223372036854775807) (hbytes : (l.length + u.length) * bytes ≤ 140737488355328) (hold : Old w0 w)
    (h : ∀ v' w', OwnN k E w0 w' v' (l ++ u) → Old w0 w' → w.grownBy w' v.ownBlock → wpList P ops Q rest (a.put o.dst v') w') : wpList P ops Q (o :: rest) a w := by
  obtain ⟨ao, cap, b, off, rfl, hn1, hn2, ha, ht0⟩ := hu
  exact wpList_append_any hgd s x T ho E ht (.int k 0) 1 bytes hinfo rfl (by decide) v l.length (l.map (.int k)) hs hown ao u.length cap (u.map (.int k)) hx (by simp) ⟨b, off, none⟩ ha (Nums.cells ht0 (Old.refl w)) (nums_one u)
    h63 hbytes hold (fun v' w' k1 k2 k3 => h v' w' (by unfold OwnN; rw [List.map_append, List.length_append]; exact k1) k2 k3)
theorem wpList_make_nums {w0 w : World} (hg : o.guard = none) (l c : Operand) (T : TypeId) (hop : o.op = Op.makeSlice T l c) (E : TypeId) (ht : P.underlying T = some (.slice E))
    {bytes : Nat} (hinfo : (P.info? E).map (fun i => (i.zero, i.size, i.bytes)) = some (some (.int k 0), 1, bytes)) (n : Nat) (hl : a.eval l = .int .i64 n) (hc : a.eval c = .int .i64 n) (hn : n ≤ 9223372036854775807) (hnb : bytes * n ≤ 281474976710656) (hold : Old w0 w)
    (hK : ∀ w', OwnN k E w0 w' (.slice (some ⟨w.heap.size, 0, none⟩) n n) (List.replicate n 0) → Old w w' → w.heap.size < w'.heap.size → wpList P ops Q rest (a.put o.dst (.slice (some ⟨w.heap.size, 0, none⟩) n n)) w') : wpList P ops Q (o :: rest) a w := by
  obtain ⟨i, hi, hz0, hz1, hz2⟩ := info_parts hinfo
  refine wpList_make_full w hg l c T hop w0.heap.size E i (.int k 0) 1 ht hi hz0 hz1 .i64 .i64 n n n hl hc rfl rfl (by rw [hz2]; exact hnb) (by simpa [maxLen] using hn) hold.size fun w' h1 h2 => ?_
  refine hK w' ?_ ⟨h2.os, h2.tape, h2.output, h2.size, fun k hk => h2.block k hk (by simp)⟩ (h1.lt _ rfl).2
  unfold OwnN
  rw [List.length_replicate, List.map_replicate]
  simpa [toList_madeCells_one, Value.cells] using h1
theorem wpList_append_num1 {w0 w : World} (hgd : o.guard = none) (s x : Operand) (T : TypeId) (ho : o.op = .call { callee := .builtin .append, args := #[s, x], argTypes := #[T, T] })
    (E : TypeId) (ht : P.underlying T = some (.slice E)) {bytes : Nat} (hinfo : (P.info? E).map (fun i => (i.zero, i.size, i.bytes)) = some (some (.int k 0), 1, bytes))
    (v : Value) (l : List Int) (hs : a.eval s = v) (hown : OwnN k E w0 w v l) (b : Nat) (y : Int) (hx : a.eval x = .slice (some ⟨b, 0, none⟩) 1 1) (hc : w.cell? ⟨b, 0, none⟩ = some (.int k y))
    (h63 : l.length + 1 ≤ 9223372036854775807) (hbytes : (l.length + 1) * bytes ≤ 140737488355328) (hold : w0.heap.size ≤ w.heap.size)
    (h : ∀ v' w', OwnN k E w0 w' v' (l ++ [y]) → w.grownBy w' v.ownBlock → wpList P ops Q rest (a.put o.dst v') w') : wpList P ops Q (o :: rest) a w := by
  obtain ⟨i, hi, hz0, hz1, hz2⟩ := info_parts hinfo
  refine wpList_append_own w hgd s x T ho w0.heap.size E i (.int k 0) 1 bytes ht hi hz0 hz1 hz2 rfl (by decide) v l.length (l.map (.int k)) hs hown ⟨b, 0, none⟩ 1 1 [.int k y] hx rfl ?_ (by simp [Value.oneCell']) (by simpa [maxLen] using h63) hbytes hold ?_
  · intro j u hu
    match j, hu with
    | 0, hu => simp at hu; subst hu; exact hc
  · intro v' w' a1 a2 _
    refine h v' w' ?_ a2
    unfold OwnN
    rw [List.map_append, List.length_append]
    exact a1
end

end Go.Proofs.YtohngjkedhpikaaGreatDoor
