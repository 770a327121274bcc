/-
  TEXT, ELEMENTS: digits, kinds.
-/
import Derived.Test.YtpifkinlaicliaaGreatDoorZShelf02
import Derived.Test.YtpifkinlaicliaaGreatDoorZTextRefA
import Derived.Laws.Cover4
namespace Go.Proofs.YtpifkinlaicliaaGreatDoor
open Go.RowKit
attribute [local go_sem] Old.refl Old.alloc Old.drew Old.setCell OldW.old

def isDg (b : UInt8) : Bool := 48 ≤ b.toNat && b.toNat ≤ 57
/-- how many digits a list begins with -/
def dgN (l : List UInt8) : Nat := (l.takeWhile isDg).length
theorem dgN_eq {l : List UInt8} {n : Nat} (h : ∀ i, i < n → isDg (l.getD i 0) = true) (hn : n ≤ l.length) (h' : n < l.length → isDg (l.getD n 0) = false) : dgN l = n := by
  induction l generalizing n with
  | nil => simp at hn; subst hn; rfl
  | cons x l ih =>
    cases n with
    | zero =>
      have := h' (by simp)
      simp at this
      unfold dgN
      rw [List.takeWhile_cons, this]; rfl
    | succ n =>
      have h0 := h 0 (by omega)
      simp at h0
      have := ih (n := n) (fun i hi => by have := h (i + 1) (by omega); simpa using this) (by simpa using hn) (fun hl => by have := h' (by simpa using hl); simpa using this)
      unfold dgN at this ⊢
      rw [List.takeWhile_cons, h0]
      simp [this]
theorem dgN_le (l : List UInt8) : dgN l ≤ l.length := by
  unfold dgN
  exact (List.takeWhile_prefix _).length_le
set_option maxRecDepth 100000 in
set_option maxHeartbeats 1600000 in
theorem digits_any (s : ByteArray) (w : World) (hs : s.size ≤ 140737488355328) :
    Calls Tryz.prog 99 #[.string s] w fun e w' => e = .returned (.int .i64 (dgN s.data.toList)) ∧ w = w' := by
  go_enter Tryz.func99, Tryz.ntmps99
  go_wp2
  go_loopw [3] (fun j wr => ∃ n : Nat, n ≤ s.size ∧ j = .int .i64 n ∧ (∀ i, i < n → isDg (s.data.toList.getD i 0) = true) ∧ w = wr) (fun j _ => s.size - (intOf j).toNat)
  case atStart => exact ⟨0, Nat.zero_le _, rfl, fun i hi => by omega, by trivial⟩
  case round =>
    obtain ⟨n, hn, rfl, hd, rfl⟩ := hrel
    have Hd := Lib.hid hd
    clear hd
    by_cases hlt : n < s.size
    · have hlt' : (n : Int) < s.size := by omega
      have hx := byte_get s hlt
      have Hx := Lib.hid hx
      clear hx
      by_cases h1 : 48 ≤ (s[n]'hlt).toNat
      · have h1' : (48 : Int) ≤ (s[n]'hlt).toNat := by omega
        by_cases h2 : (s[n]'hlt).toNat ≤ 57
        · have h2' : ((s[n]'hlt).toNat : Int) ≤ 57 := by omega
          go_wp2
          go_roundw
          case rel => exact ⟨n + 1, by omega, by go_num, all_succ Hd.out (by rw [← Hx.out]; simp [isDg]; omega), by trivial⟩
          case measure => simp [intOf]; omega
        · have h2' : decide (((s[n]'hlt).toNat : Int) ≤ 57) = false := by simp; omega
          have Hv := Lib.hid (dgN_eq Hd.out (by rw [str_len]; exact hn) (fun _ => by rw [← Hx.out]; simp [isDg]; omega))
          go_wp2
          go_ret
          exact ⟨ret_i (by rw [Hv.out]), rfl⟩
      · have h1' : decide ((48 : Int) ≤ (s[n]'hlt).toNat) = false := by simp; omega
        have Hv := Lib.hid (dgN_eq Hd.out (by rw [str_len]; exact hn) (fun _ => by rw [← Hx.out]; simp [isDg]; omega))
        go_wp2
        go_ret
        exact ⟨ret_i (by rw [Hv.out]), rfl⟩
    · have hlt' : decide ((n : Int) < s.size) = false := by simp; omega
      have Hv := Lib.hid (dgN_eq Hd.out (by rw [str_len]; exact hn) (fun h => by rw [str_len] at h; omega))
      go_wp2
      go_ret
      exact ⟨ret_i (by rw [Hv.out]), rfl⟩
/-- what a character of a base is -/
def kindC (r : Int) : Nat := if (97 ≤ r ∧ r ≤ 122) ∨ (192 ≤ r ∧ ¬ r = 215 ∧ ¬ r = 247) then 2 else 0
theorem kindOf_any (r : Int) (w : World) : Calls Tryz.prog 103 #[.int .i32 r] w fun e w' => e = .returned (.int .i64 (kindC r)) ∧ w = w' := by
  go_enter Tryz.func103, Tryz.ntmps103
  go_wp2
  all_goals
    go_ret
    refine ⟨ret_i ?_, rfl⟩
    (try simp only [bne_iff_ne, ne_eq, bne_eq_false_iff_eq] at *)
    unfold kindC
    first
      | (rw [if_pos (by omega)]; rfl)
      | (rw [if_neg (by omega)]; rfl)
end Go.Proofs.YtpifkinlaicliaaGreatDoor
/-
  TEXT, ELEMENTS: of a text.
-/



namespace Go.Proofs.YtpifkinlaicliaaGreatDoor
open Go.RowKit
attribute [local go_sem] Old.refl Old.alloc Old.drew Old.setCell OldW.old

/-- an element: its kind, its character, its digits -/
structure El where
  k : Nat
  r : Nat
  d : ByteArray
def elE : Enc El where
  k := 3
  enc x := [.int .i64 x.k, .int .i32 x.r, .string x.d]
  len _ := rfl
  one x u hu := by
    simp only [List.mem_cons, List.not_mem_nil, or_false] at hu
    rcases hu with rfl | rfl | rfl <;> rfl
theorem infoEl : (Tryz.prog.info? 144).map (fun i => (i.zero, i.size, i.bytes)) = some (some (.agg #[.int .i64 0, .int .i32 0, .string ⟨#[]⟩]), 3, 32) := by kernel_rfl
/-- the digits from p to q, without noughts ahead -/
def trimN (s : ByteArray) (p q : Nat) : ByteArray := ⟨(Lib.trimLeftB (s.extract p q).data.toList 48).toArray⟩
theorem trim_any (s : ByteArray) (p q : Nat) (w : World) : Calls Tryz.prog 100 #[.string (s.extract p q), .string ⟨#[48]⟩] w fun e w' => e = .returned (.string (trimN s p q)) ∧ w' = w := Tryz.strings_TrimLeft_one (s.extract p q) 48 (by decide) w
def elC (x : Chr) : El := ⟨kindC x.r, x.r, ⟨#[]⟩⟩
def baseEls (r : Nat) : List El := (charsAt (baseC r).data.toList 0).map elC
def dgAt (s : ByteArray) (p : Nat) : Nat := dgN (s.data.toList.drop p)
/-- what begins at a place: its elements, and where it ends -/
def elStep (s : ByteArray) (p : Nat) : List El × Nat :=
  if 0 < dgAt s p then ([⟨1, 0, trimN s p (p + dgAt s p)⟩], p + dgAt s p)
  else (if widC (chR s.data.toList p) = 0 then [] else baseEls (chR s.data.toList p), p + chN s.data.toList p)
theorem elStep_lt (s : ByteArray) (p : Nat) : p < (elStep s p).2 := by
  unfold elStep
  split
  · show p < p + dgAt s p; omega
  · have := chN_pos s.data.toList p
    show p < p + chN s.data.toList p; omega
/-- the elements from a place on, behind those that are there -/
def elsGo (s : ByteArray) (p : Nat) (t : List El) : List El := if p < s.size then elsGo s (elStep s p).2 (t ++ (elStep s p).1) else t
termination_by s.size - p
decreasing_by have := elStep_lt s p; omega
def elsS (s : ByteArray) : List El := elsGo s 0 []
theorem elsGo_on {s : ByteArray} {p : Nat} (h : p < s.size) (t : List El) : elsGo s p t = elsGo s (elStep s p).2 (t ++ (elStep s p).1) := by rw [elsGo, if_pos h]
theorem elsGo_end {s : ByteArray} {p : Nat} (h : ¬ p < s.size) (t : List El) : elsGo s p t = t := by rw [elsGo, if_neg h]
theorem if_size {c : Prop} [Decidable c] {a b : ByteArray} (ha : a.size ≤ 4) (hb : b.size ≤ 4) : (if c then a else b).size ≤ 4 := by split <;> assumption
theorem baseC_size (r : Int) : (baseC r).size ≤ 4 := by
  unfold baseC baseS
  iterate 12 (refine if_size (Nat.le_of_ble_eq_true rfl) ?_)
  exact encode_size_le _
theorem OwnS.iterAt2 {α : Type} {c : Enc α} {E : TypeId} {w0 w : World} {v : Value} {t : List α} (h : OwnS c E w0 w v t) {k : Nat} {s : ByteArray} {pos : Nat} (pos' : Nat) (hk : w.heap[k]? = some (.stringIter s pos)) : OwnS c E w0 (w.iterAt k s pos') v t := by
  obtain ⟨h1, h2⟩ := h
  refine ⟨h1, ?_⟩
  rcases h2 with h2 | ⟨g, cap, cur, e, hb, hg, r⟩
  · exact .inl h2
  · refine .inr ⟨g, cap, cur, e, hb, ?_, r⟩
    rw [Lib.iterAt_other w k g s pos' (fun e => by subst e; rw [hg] at hk; cases hk)]
    exact hg
theorem OwnS.ne_iter {α : Type} {c : Enc α} {E : TypeId} {w0 w : World} {v : Value} {t : List α} (h : OwnS c E w0 w v t) {k : Nat} {s : ByteArray} {pos : Nat} (hk : w.heap[k]? = some (.stringIter s pos)) : v.ownBlock ≠ some k := by
  obtain ⟨h1, h2⟩ := h
  rcases h2 with ⟨rfl, _⟩ | ⟨g, cap, cur, rfl, hb, hg, r⟩
  · intro e; cases e
  · intro e
    have : g = k := by simpa [Value.ownBlock] using e
    subst this
    rw [hg] at hk; cases hk
theorem extract_toEnd (s : ByteArray) (p : Nat) : (s.extract p s.size).data.toList = s.data.toList.drop p := by
  rw [extract_list, ← str_len, List.take_length]
theorem take_app_one {α β : Type} {l : List α} {i : Nat} {x : α} (f : α → β) (h : l[i]? = some x) : (l.take (i + 1)).map f = (l.take i).map f ++ [f x] := by
  rw [List.take_succ_eq_append_getElem (List.getElem?_eq_some_iff.1 h).1, (List.getElem?_eq_some_iff.1 h).2]; simp
set_option maxRecDepth 100000 in
set_option maxHeartbeats 3200000 in
theorem elements_any (s : ByteArray) (w : World) (hT : Tabs w) (hs : s.size ≤ 4194304) :
    Calls Tryz.prog 82 #[.string s] w fun e w' => (∃ v, e = .returned v ∧ OwnS elE 144 w w' v (elsS s)) ∧ Old w w' := by
  go_enter Tryz.func82, Tryz.ntmps82
  go_wp2_with fail
  go_loopw [3, 4] (fun x i wr => ∃ (p : Nat) (t : List El), p ≤ s.size ∧ t.length ≤ 4 * p ∧ i = .int .i64 p ∧ OwnS elE 144 w wr x t ∧ Old w wr ∧ elsGo s p t = elsS s) (fun _ i _ => s.size - (intOf i).toNat)
  case atStart => exact ⟨0, [], Nat.zero_le _, Nat.zero_le _, rfl, OwnS.nil _ _ _ _, Old.refl _, rfl⟩
  case round =>
    obtain ⟨p, t, hp, htp, rfl, hown, ho, hat⟩ := hrel
    have Hat := Lib.hid hat
    have Hown := Lib.hid hown
    clear hat hown
    obtain ⟨ax, cx, rfl, hc1, hc2⟩ := Hown.out.form
    by_cases hlt : p < s.size
    · have hlt' : (p : Int) < s.size := by omega
      have hon := elsGo_on hlt t
      have hesz : (s.extract p s.size).size ≤ 140737488355328 := by have := extract_size (s := s) (p := p) (i := s.size); omega
      have hdl := dgN_le (s.data.toList.drop p)
      rw [List.length_drop, str_len] at hdl
      have HG := Lib.hid (fun V => digits_any (s.extract p s.size) V hesz)
      rw [extract_toEnd] at HG
      by_cases hd : 0 < dgAt s p
      · have hst : elStep s p = ([⟨1, 0, trimN s p (p + dgAt s p)⟩], p + dgAt s p) := if_pos hd
        rw [hst, Hat.out] at hon
        have Hon := Lib.hid hon
        have Htr := Lib.hid (fun q V => trim_any s p q V)
        unfold dgAt at hd Hon
        clear hst hon
        generalize dgN (s.data.toList.drop p) = d at *
        have hq : (p : Int) + d = ((p + d : Nat) : Int) := by omega
        have hpq : p ≤ p + d := by omega
        have hqs : p + d ≤ s.size := by omega
        have hd' : (0 : Int) < d := by omega
        generalize p + d = q at *
        go_wp2_with (first | (go_at_call 99; refine (HG.out _).mono ?_; rintro e w1 ⟨rfl, rfl⟩) | (go_at_call 100; refine (Htr.out _ _).mono ?_; rintro e w1 ⟨rfl, rfl⟩) | (at_builtin; refine wpList_append_rec1 (c := elE) (w0 := w) rfl _ _ 140 rfl 144 Tryz.underlying140 _ infoEl rfl (Nat.zero_lt_succ 2) _ t rfl (Hown.out.alloc _) w1.heap.size (⟨1, 0, trimN s p q⟩ : El) rfl (fun j u hu => by simp [go_sem]; simpa [elE] using hu) (by omega) (by omega) (by have h1 := ho.size; simp [go_sem]; omega) ?_; intro v' w4 hown4 hgr))
        have ho4 : Old w w4 := (ho.alloc _).grown hgr (fun b hb => (World.ownsRow.lt Hown.out b hb).1)
        go_roundw
        case rel => exact ⟨q, t ++ [⟨1, 0, trimN s p q⟩], hqs, by simp; omega, by go_num, hown4, ho4, Hon.out.symm⟩
        case measure => simp [intOf]; omega
      · have hst : elStep s p = (if widC (chR s.data.toList p) = 0 then [] else baseEls (chR s.data.toList p), p + chN s.data.toList p) := if_neg hd
        rw [hst, Hat.out] at hon
        have hd0 : dgN (s.data.toList.drop p) = 0 := by unfold dgAt at hd; omega
        rw [hd0] at HG
        have hn1 := chN_pos s.data.toList p
        have hn2 := chN_le (l := s.data.toList) (p := p) (by rw [str_len]; exact hlt)
        rw [str_len] at hn2
        have hr0 := chR_le s.data.toList p
        have HD := Lib.hid (fun V (o : Old w V) => decode_any s V (hT.old o) p hlt)
        have HW := Lib.hid (fun V => Width_any (chR s.data.toList p) V (by omega))
        have HB := Lib.hid (fun V => Base_any (chR s.data.toList p) V (by omega))
        have Hsz := Lib.hid (baseC_size (chR s.data.toList p))
        have hwc := widC_cases (chR s.data.toList p)
        have Hon := Lib.hid hon
        have Hbe := Lib.hid (show baseEls (chR s.data.toList p) = (charsAt (baseC (chR s.data.toList p)).data.toList 0).map elC from rfl)
        clear hon hst hdl hd hd0
        generalize baseEls (chR s.data.toList p) = B at *
        generalize baseC (chR s.data.toList p : Int) = bs at *
        generalize chR s.data.toList p = R at *
        generalize chN s.data.toList p = n at *
        generalize widC R = W at *
        have hq : (p : Int) + n = ((p + n : Nat) : Int) := by omega
        have hpq : p < p + n := by omega
        generalize p + n = q at *
        by_cases hW : W = 0
        · subst hW
          rw [if_pos rfl, List.append_nil] at Hon
          go_wp2_with (first | (go_at_call 99; refine (HG.out _).mono ?_; rintro e w1 ⟨rfl, rfl⟩) | (go_at_call 61; refine (HD.out _ ho).mono ?_; rintro e w1 ⟨rfl, ho1⟩) | (go_at_call 101; refine (HW.out _).mono ?_; rintro e w2 ⟨rfl, ho2⟩))
          go_roundw
          case rel => exact ⟨q, t, hn2, by omega, by go_num, (Hown.out.old ho1).old ho2, (ho.trans ho1).trans ho2, Hon.out.symm⟩
          case measure => simp [intOf]; omega
        · rw [if_neg hW] at Hon
          have hW' : ((W : Int) == 0) = false := by rw [beq_eq_false_iff_ne]; omega
          go_wp2_with (first | (go_at_call 99; refine (HG.out _).mono ?_; rintro e w1 ⟨rfl, rfl⟩) | (go_at_call 61; refine (HD.out _ ho).mono ?_; rintro e w1 ⟨rfl, ho1⟩) | (go_at_call 101; refine (HW.out _).mono ?_; rintro e w2 ⟨rfl, ho2⟩) | (go_at_call 102; refine (HB.out _).mono ?_; rintro e w3 ⟨rfl, rfl⟩))
          have hoi : Old w (w2.alloc (.stringIter bs 0)) := ((ho.trans ho1).trans ho2).alloc _
          have hwk : w.heap.size ≤ w2.heap.size := ((ho.trans ho1).trans ho2).size
          have hbs := Hsz.out
          go_loopw [3] (fun x wq => ∃ (pos : Nat) (u : List El), pos ≤ bs.size ∧ u.length ≤ pos ∧ wq.heap[w2.heap.size]? = some (.stringIter bs pos) ∧ OwnS elE 144 w wq x (t ++ u) ∧ Old w wq ∧ u ++ (charsAt bs.data.toList pos).map elC = B) (fun _ wq => bs.size - wq.iterPos w2.heap.size)
          case atStart => exact ⟨0, [], Nat.zero_le _, Nat.zero_le _, by simpa using World.iter_heap w2 bs 0, by rw [List.append_nil]; exact ((Hown.out.old ho1).old ho2).alloc _, hoi, Hbe.out.symm⟩
          case round =>
            obtain ⟨pos, u, hps, hul, hit, hown, hoq, hat⟩ := hrel
            have Hat := Lib.hid hat
            have Hown2 := Lib.hid hown
            clear hat hown
            obtain ⟨ax, cx, rfl, hc1, hc2⟩ := Hown2.out.form
            have hlen : (t ++ u).length = t.length + u.length := List.length_append
            rw [hlen] at hc1 ⊢
            by_cases hpl : pos < bs.size
            · have hnx : ∀ ty, (Instr.next (.pointer (some ⟨w2.heap.size, 0, none⟩)) true ty).run Tryz.prog wr = _ := fun ty => next_at wr w2.heap.size bs pos ty hit hpl
              have hm1 := chN_pos bs.data.toList pos
              have hm2 := chN_le (l := bs.data.toList) (p := pos) (by rw [str_len]; exact hpl)
              rw [str_len] at hm2
              have Hon2 := Lib.hid (charsAt_on (l := bs.data.toList) (p := pos) (by rw [str_len]; exact hpl))
              have hit2 := Lib.iterAt_heap wr w2.heap.size bs pos (pos + chN bs.data.toList pos) hit
              have ho5 := hoq.iterAt hwk bs (pos + chN bs.data.toList pos)
              have hown5 := Hown2.out.iterAt2 (pos + chN bs.data.toList pos) hit
              rw [hlen] at hown5
              have Hown5 := Lib.hid hown5
              have hc0 := chR_le bs.data.toList pos
              have HK := Lib.hid (fun V => kindOf_any (chR bs.data.toList pos) V)
              have Hel := Lib.hid (show elC ⟨chR bs.data.toList pos, pos, chN bs.data.toList pos, badC bs.data.toList pos⟩ = ⟨kindC (chR bs.data.toList pos), chR bs.data.toList pos, ⟨#[]⟩⟩ from rfl)
              generalize wr.iterAt w2.heap.size bs (pos + chN bs.data.toList pos) = w5 at *
              clear hown5
              generalize kindC (chR bs.data.toList pos) = K at *
              generalize badC bs.data.toList pos = bb at *
              generalize chR bs.data.toList pos = c at *
              generalize chN bs.data.toList pos = m at *
              have hws : w.heap.size ≤ w5.heap.size := ho5.size
              go_wp2_with (first | (go_at_call 103; refine (HK.out _).mono ?_; rintro e w6 ⟨rfl, rfl⟩) | (at_builtin; refine wpList_append_rec1 (c := elE) (w0 := w) rfl _ _ 140 rfl 144 Tryz.underlying140 _ infoEl rfl (Nat.zero_lt_succ 2) _ (t ++ u) rfl (Hown5.out.alloc _) w5.heap.size (⟨K, c, ⟨#[]⟩⟩ : El) rfl (fun j u hu => by simp [go_sem]; simpa [elE] using hu) (by rw [hlen]; omega) (by rw [hlen]; omega) (by simp [go_sem]; omega) ?_; intro v' w4 hown4 hgr))
              have ho4 : Old w w4 := (ho5.alloc _).grown hgr (fun b hb => (World.ownsRow.lt Hown5.out b hb).1)
              have hk5 : w2.heap.size < w5.heap.size := (Array.getElem?_eq_some_iff.1 hit2).1
              have hit4 : w4.heap[w2.heap.size]? = some (.stringIter bs (pos + m)) := by
                rw [hgr.block w2.heap.size (by simp [go_sem]; omega) (fun e => Hown5.out.ne_iter hit2 e.symm), ((Old.refl w5).alloc _).block _ hk5]
                exact hit2
              go_roundw
              case rel => exact ⟨pos + m, u ++ [⟨K, c, ⟨#[]⟩⟩], hm2, by simp; omega, hit4, by rw [← List.append_assoc]; exact hown4, ho4, by rw [← Hat.out, Hon2.out, List.map_cons, Hel.out, List.append_assoc]; rfl⟩
              case measure => simp only [World.iterPos, hit4, hit]; omega
            · have Hend := Lib.hid (charsAt_end (l := bs.data.toList) (p := pos) (by rw [str_len]; exact hpl))
              have hnx : ∀ ty, (Instr.next (.pointer (some ⟨w2.heap.size, 0, none⟩)) true ty).run Tryz.prog wr = _ := fun ty => Lib.run_next_end_at wr w2.heap.size bs pos ty hit hpl
              have hu : u = B := by rw [← Hat.out, Hend.out]; simp
              have Hown6 := Lib.hid Hown2.out
              rw [hlen] at Hown6
              go_wp2_with fail
              go_roundw
              case rel => exact ⟨q, t ++ u, hn2, by rw [hlen]; omega, by go_num, Hown6.out, hoq, by rw [hu]; exact Hon.out.symm⟩
              case measure => simp [intOf]; omega
    · obtain rfl : p = s.size := by omega
      have Hend := Lib.hid (elsGo_end (s := s) (p := s.size) hlt t)
      go_wp2_with fail
      go_ret
      exact ⟨⟨_, rfl, by rw [← Hat.out, Hend.out]; exact Hown.out⟩, ho⟩
end Go.Proofs.YtpifkinlaicliaaGreatDoor
