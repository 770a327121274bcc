/-
  THE DIRECTORY OF SOURCES, OR THE FIRST FAULT, PLAIN.
-/
import Derived.Test.YtpifkinlaicliaaGreatDoorZTab
import Derived.Test.YtpifkinlaicliaaGreatDoorZCollect
namespace Go.Proofs.YtpifkinlaicliaaGreatDoor
open Go.RowKit

/-- topic t, behind the rows l0, is refused with code c -/
def badD (l0 : List Dn) (t : Tq) (c : Int) : Prop := (¬ (normR t.name).2 = 0 ∧ c = (normR t.name).2) ∨ ((normR t.name).2 = 0 ∧ nrm t.name ∈ l0.map Dn.norm ∧ c = 71)
theorem badD_code {l0 : List Dn} {t : Tq} {c : Int} (h : badD l0 t c) : ¬ c = 0 := by
  rcases h with ⟨h, rfl⟩ | ⟨_, _, rfl⟩
  · exact h
  · decide
theorem badD_bad {l0 : List Dn} {t : Tq} {c : Int} {a b : Nat} (h : badD l0 t c) (g : GoodD (l0 ++ [rowD a b t])) : False := by
  obtain ⟨h1, h2⟩ := g.last
  rcases h with ⟨h, _⟩ | ⟨_, h, _⟩
  · exact h h1
  · exact h2 h
theorem badD_eq {l0 : List Dn} {t : Tq} {c d : Int} (h : badD l0 t c) (k : badD l0 t d) : c = d := by
  rcases h with ⟨h, rfl⟩ | ⟨h, _, rfl⟩
  · rcases k with ⟨k, rfl⟩ | ⟨k, _, rfl⟩
    · rfl
    · exact absurd k h
  · rcases k with ⟨k, rfl⟩ | ⟨k, _, rfl⟩
    · exact absurd h k
    · rfl
def ErrD (S : List (List Tq)) (f : Flt) : Prop := ∃ (a b : Nat) (T : List Tq) (t : Tq) (c : Int), S[a]? = some T ∧ T[b]? = some t ∧ GoodD (flatD S a ++ rowsD a T b) ∧ badD (flatD S a ++ rowsD a T b) t c ∧ f = ⟨c, a, t.line, 0, t.name⟩
theorem ErrD.not_good {S : List (List Tq)} {f : Flt} (h : ErrD S f) (g : GoodD (flatD S S.length)) : False := by
  obtain ⟨a, b, T, t, c, h1, h2, _, h4, _⟩ := h
  exact badD_bad h4 (g.pre (flatD_at h1 h2).2)
theorem rows_pre {S : List (List Tq)} {a a' b b' : Nat} {T T' : List Tq} {t : Tq} (h1 : S[a]? = some T) (h2 : T[b]? = some t) (h1' : S[a']? = some T') (hlt : a < a' ∨ (a = a' ∧ b < b')) :
    flatD S a ++ rowsD a T b ++ [rowD a b t] <+: flatD S a' ++ rowsD a' T' b' := by
  have hb := (List.getElem?_eq_some_iff.1 h2).1
  rcases hlt with h | ⟨rfl, h⟩
  · have p1 : flatD S (a + 1) <+: flatD S a' := flatD_pre S h
    rw [flatD_succ h1] at p1
    refine List.IsPrefix.trans (List.IsPrefix.trans ?_ p1) (List.prefix_append _ _)
    rw [List.append_assoc, ← rowsD_succ h2]
    exact (List.prefix_append_right_inj _).2 (rowsD_pre a T hb)
  · obtain rfl : T = T' := Option.some.inj (h1.symm.trans h1')
    rw [List.append_assoc, ← rowsD_succ h2]
    exact (List.prefix_append_right_inj _).2 (rowsD_pre a T h)
theorem ErrD.unique {S : List (List Tq)} {f g : Flt} (h : ErrD S f) (k : ErrD S g) : f = g := by
  obtain ⟨a, b, T, t, c, h1, h2, h3, h4, rfl⟩ := h
  obtain ⟨a', b', T', t', c', k1, k2, k3, k4, rfl⟩ := k
  by_cases e : a < a' ∨ (a = a' ∧ b < b')
  · exact (badD_bad h4 (k3.pre (rows_pre h1 h2 k1 e))).elim
  · by_cases e' : a' < a ∨ (a' = a ∧ b' < b)
    · exact (badD_bad k4 (h3.pre (rows_pre k1 k2 h1 e'))).elim
    · obtain rfl : a = a' := by omega
      obtain rfl : b = b' := by omega
      obtain rfl : T = T' := Option.some.inj (h1.symm.trans k1)
      obtain rfl : t = t' := Option.some.inj (h2.symm.trans k2)
      rw [badD_eq h4 k4]
/-- what is to be answered -/
def ColD (S : List (List Tq)) : Except Flt (List Dn) → Prop
  | .error f => ((64 < S.length ∨ 1000 < totD S S.length) ∧ f = ⟨2, 0, 0, 0, ⟨#[]⟩⟩) ∨ (S.length ≤ 64 ∧ totD S S.length ≤ 1000 ∧ ErrD S f)
  | .ok l => S.length ≤ 64 ∧ totD S S.length ≤ 1000 ∧ l = flatD S S.length ∧ GoodD l
theorem ColD.unique {S : List (List Tq)} : ∀ {r s : Except Flt (List Dn)}, ColD S r → ColD S s → r = s
  | .error f, .error g, h, k => by
    rcases h with ⟨_, rfl⟩ | ⟨_, _, h⟩
    · rcases k with ⟨_, rfl⟩ | ⟨_, _, k⟩
      · rfl
      · omega
    · rcases k with ⟨_, rfl⟩ | ⟨_, _, k⟩
      · omega
      · rw [h.unique k]
  | .error f, .ok l, h, ⟨k1, k2, k3, k4⟩ => by
    rcases h with ⟨_, rfl⟩ | ⟨_, _, h⟩
    · omega
    · exact (h.not_good (k3 ▸ k4)).elim
  | .ok l, .error g, ⟨k1, k2, k3, k4⟩, h => by
    rcases h with ⟨_, rfl⟩ | ⟨_, _, h⟩
    · omega
    · exact (h.not_good (k3 ▸ k4)).elim
  | .ok l, .ok m, ⟨_, _, h, _⟩, ⟨_, _, k, _⟩ => by rw [h, k]
theorem ColD.code {S : List (List Tq)} {f : Flt} (h : ColD S (.error f)) : ¬ f.code = 0 := by
  rcases h with ⟨_, rfl⟩ | ⟨_, _, a, b, T, t, c, _, _, _, h, rfl⟩
  · decide
  · exact badD_code h
end Go.Proofs.YtpifkinlaicliaaGreatDoor
/-
  THE DIRECTORY OF SOURCES, OR THE FIRST FAULT: Collect.
-/


namespace Go.Proofs.YtpifkinlaicliaaGreatDoor
open Go.RowKit Go.Maps
attribute [local go_sem] Old.refl Old.alloc Old.drew Old.setCell OldW.old

set_option maxHeartbeats 800000 in
theorem FCodeE_any (code : Int) (w : World) (hc : ¬ code = 0) :
    Calls Tryz.prog 40 #[.int .i64 code] w fun e w' => (∃ v, e = .returned v ∧ IsErr w' v code 0 0 0 ⟨#[]⟩) ∧ Old w w' := by
  have HN := Lib.hid (FNew_any code 0 0 0 ⟨#[]⟩ w hc)
  go_enter Tryz.func40, Tryz.ntmps40
  go_wp2_with (go_at_call 41; refine HN.out.mono ?_; rintro e w1 ⟨⟨v, rfl, hE⟩, o1⟩)
  go_ret
  exact ⟨⟨_, rfl, hE⟩, o1⟩
/-- what Collect hands back -/
def RetE (w w' : World) (S : List (List Tq)) (e : Ending) : Prop :=
  (∃ f v, ColD S (.error f) ∧ e = .returned (.tuple #[.slice none 0 0, v]) ∧ IsErr w' v f.code f.src f.line f.col f.word) ∨
  (∃ l u, ColD S (.ok l) ∧ e = .returned (.tuple #[u, .nilIface]) ∧ OwnS dnE 84 w w' u l)
set_option maxRecDepth 100000 in
set_option maxHeartbeats 3200000 in
theorem CollectE_many (v : Value) (S : List (List Tq)) (w : World) (hv : Sqs w v S) (h64 : 64 < S.length) :
    Calls Tryz.prog 22 #[v] w fun e w' => RetE w w' S e ∧ Old w w' := by
  obtain ⟨a, cap, rfl, hc1, hc2⟩ := Seqs.form hv
  obtain ⟨bs, os, has, hats⟩ := Sqs.open hv
  have Has := Lib.hid has
  have Hats := Lib.hid hats
  clear hv has hats
  have hi64 : (64 : Int) < S.length := by omega
  go_enter Tryz.func22, Tryz.ntmps22
  go_wp2_with fail
  go_loopw [4, 17] (fun x j wr => ∃ (i : Nat) (z : Int), j = .int .i64 i ∧ x = .int .i64 z ∧ i ≤ S.length ∧ Old w wr) (fun _ j _ => S.length - (intOf j).toNat)
  case atStart => exact ⟨0, 0, rfl, rfl, Nat.zero_le _, Old.refl _⟩
  case round =>
    obtain ⟨i, z, rfl, rfl, hi, ho⟩ := hrel
    by_cases hlt : i < S.length
    · have hi1 : (i : Int) < S.length := by omega
      obtain ⟨T, hTi⟩ : ∃ T, S[i]? = some T := ⟨_, List.getElem?_eq_getElem hlt⟩
      obtain ⟨a0, n0, c0', ax, cx, hcs, hTs, k1, k2⟩ := Hats.out i T hTi
      obtain rfl := Has.out (by omega)
      have c0 : ∀ V, Old wr V → V.cell? ⟨bs, os + i * 2, none⟩ = some (.slice a0 n0 c0') := fun V o => (hcs V (ho.trans o)).1
      have c1 : ∀ V, Old wr V → V.cell? ⟨bs, os + i * 2 + 1, none⟩ = some (.slice ax T.length cx) := fun V o => (hcs V (ho.trans o)).2
      clear hcs hTs hTi
      go_wp2_with fail
      go_roundw
      case rel => exact ⟨i + 1, _, by go_num, rfl, by omega, ho.alloc _⟩
      case measure => simp [intOf]; omega
    · obtain rfl : i = S.length := by omega
      have hi1 : ¬ (S.length : Int) < S.length := by omega
      have HC := Lib.hid (FCodeE_any 2 wr (by decide))
      go_wp2_with (go_at_call 40; refine HC.out.mono ?_; rintro e w1 ⟨⟨v, rfl, hE⟩, o1⟩)
      go_ret2
      exact ⟨.inl ⟨⟨2, 0, 0, 0, ⟨#[]⟩⟩, v, .inl ⟨.inl h64, rfl⟩, rfl, hE⟩, ho.trans o1⟩
set_option maxRecDepth 100000 in
set_option maxHeartbeats 3200000 in
theorem CollectE_few (v : Value) (S : List (List Tq)) (w : World) (hv : Sqs w v S) (hT : Tabs w) (h64 : S.length ≤ 64) (hS : ∀ T ∈ S, T.length ≤ 140737488355328) :
    Calls Tryz.prog 22 #[v] w fun e w' => RetE w w' S e ∧ Old w w' := by
  obtain ⟨a, cap, rfl, hc1, hc2⟩ := Seqs.form hv
  obtain ⟨bs, os, has, hats⟩ := Sqs.open hv
  have Has := Lib.hid has
  have Hats := Lib.hid hats
  have HT := Lib.hid hT
  have HB := Lib.hid (fun i (hi : i ≤ S.length) => Nat.le_trans (totD_mono S hi) (Nat.le_trans (totD_bound hS S.length) (Nat.mul_le_mul_right 140737488355328 h64)))
  have hmm := @run_makeMap Tryz.prog
  clear hv has hats hT hS
  have hi64 : ¬ (64 : Int) < S.length := by omega
  go_enter Tryz.func22, Tryz.ntmps22
  go_wp2_with fail
  go_loopw [4, 17] (fun x j wr => ∃ (i : Nat), j = .int .i64 i ∧ x = .int .i64 (totD S i) ∧ i ≤ S.length ∧ Old w wr) (fun _ j _ => S.length - (intOf j).toNat)
  case atStart => exact ⟨0, rfl, rfl, Nat.zero_le _, Old.refl _⟩
  case round =>
    obtain ⟨i, rfl, rfl, hi, ho⟩ := hrel
    by_cases hlt : i < S.length
    · have hi1 : (i : Int) < S.length := by omega
      obtain ⟨T, hTi⟩ : ∃ T, S[i]? = some T := ⟨_, List.getElem?_eq_getElem hlt⟩
      obtain ⟨a0, n0, c0', ax, cx, hcs, hTs, k1, k2⟩ := Hats.out i T hTi
      obtain rfl := Has.out (by omega)
      have c0 : ∀ V, Old wr V → V.cell? ⟨bs, os + i * 2, none⟩ = some (.slice a0 n0 c0') := fun V o => (hcs V (ho.trans o)).1
      have c1 : ∀ V, Old wr V → V.cell? ⟨bs, os + i * 2 + 1, none⟩ = some (.slice ax T.length cx) := fun V o => (hcs V (ho.trans o)).2
      have hsu := totD_succ hTi
      have hb1 := HB.out (i + 1) hlt
      have Hsu : Hid (totD S (i + 1) = totD S i + T.length) := Lib.hid hsu
      rw [hsu] at hb1
      have hb2 : (totD S i : Int) + T.length ≤ 9223372036854775807 := by omega
      clear hcs hTs hTi hsu
      go_wp2_with fail
      go_roundw
      case rel => exact ⟨i + 1, by go_num, by rw [Hsu.out]; go_num, by omega, ho.alloc _⟩
      case measure => simp [intOf]; omega
    · obtain rfl : i = S.length := by omega
      have hi1 : ¬ (S.length : Int) < S.length := by omega
      by_cases hbig : 1000 < totD S S.length
      · have hbi : (1000 : Int) < totD S S.length := by omega
        have HC := Lib.hid (FCodeE_any 2 wr (by decide))
        go_wp2_with (go_at_call 40; refine HC.out.mono ?_; rintro e w1 ⟨⟨v, rfl, hE⟩, o1⟩)
        go_ret2
        exact ⟨.inl ⟨⟨2, 0, 0, 0, ⟨#[]⟩⟩, v, .inl ⟨.inr hbig, rfl⟩, rfl, hE⟩, ho.trans o1⟩
      · have hbi : ¬ (1000 : Int) < totD S S.length := by omega
        go_upto_region 11 with fail
        have hM := MapTO.made Tryz.prog 9 3 wr
        have oM : Old w (wr.alloc (.map #[] 0)) := ho.alloc _
        have hwb : w.heap.size ≤ wr.heap.size := ho.size
        generalize wr.alloc (.map #[] 0) = w0 at *
        generalize wr.heap.size = bl at *
        have HtS : Hid (¬ 1000 < totD S S.length) := Lib.hid hbig
        clear hi1 hbi hbig ho hi
        go_wp2_with fail
        go_loopw [8, 38] (fun u j wr => ∃ (i n : Nat), j = .int .i64 i ∧ i ≤ S.length ∧ OwnS dnE 84 w wr u (flatD S i) ∧ GoodD (flatD S i) ∧ MapTO Tryz.prog 9 3 wr bl n (cntD (flatD S i)) ∧ n ≤ totD S i ∧ u.ownBlock ≠ some bl ∧ Old w wr) (fun _ j _ => S.length - (intOf j).toNat)
        case atStart => exact ⟨0, 0, rfl, Nat.zero_le _, OwnS.nil _ _ _ _, GoodD.nil, by rw [show flatD S 0 = [] from rfl, cntD_nil]; exact hM, Nat.zero_le _, by simp [Value.ownBlock], oM⟩
        case round =>
          clear hM oM
          obtain ⟨i, n, rfl, hi, hown, hgood, hmap, hn, hub, ho⟩ := hrel
          by_cases hlt : i < S.length
          · have hi1 : (i : Int) < S.length := by omega
            obtain ⟨T, hTi⟩ : ∃ T, S[i]? = some T := ⟨_, List.getElem?_eq_getElem hlt⟩
            obtain ⟨a0, n0, c0', ax, cx, hcs, hTs, k1, k2⟩ := Hats.out i T hTi
            obtain rfl := Has.out (by omega)
            have c0 : ∀ V, Old wr V → V.cell? ⟨bs, os + i * 2, none⟩ = some (.slice a0 n0 c0') := fun V o => (hcs V (ho.trans o)).1
            have c1 : ∀ V, Old wr V → V.cell? ⟨bs, os + i * 2 + 1, none⟩ = some (.slice ax T.length cx) := fun V o => (hcs V (ho.trans o)).2
            have HTi := Lib.hid hTi
            obtain ⟨bt, ot, hat, hatt⟩ := Tqs.open hTs
            have Hat := Lib.hid hat
            have Hatt := Lib.hid hatt
            have hsum : totD S i + T.length ≤ 1000 := by
              have h1 := totD_succ hTi
              have h2 := totD_mono S (show i + 1 ≤ S.length from hlt)
              have h3 := HtS.out
              omega
            have HO := Lib.hid hown
            have HG := Lib.hid hgood
            have HM := Lib.hid hmap
            clear hcs hTs hat hatt hTi hown hgood hmap
            go_wp2_with fail
            have oa : Old wr (wr.alloc (.cells #[.slice a0 n0 c0', .slice ax T.length cx] 75)) := (Old.refl wr).alloc _
            have o1 := ho.trans oa
            have hown := HO.out.old oa
            have hmap := HM.out.old oa
            have hgood := HG.out
            generalize wr.alloc (.cells #[.slice a0 n0 c0', .slice ax T.length cx] 75) = w1 at *
            clear c0 c1 ho HO HG HM oa
            go_loopw [8, 46] (fun u j wr => ∃ (k n : Nat), j = .int .i64 k ∧ k ≤ T.length ∧ OwnS dnE 84 w wr u (flatD S i ++ rowsD i T k) ∧ GoodD (flatD S i ++ rowsD i T k) ∧ MapTO Tryz.prog 9 3 wr bl n (cntD (flatD S i ++ rowsD i T k)) ∧ n ≤ totD S i + k ∧ u.ownBlock ≠ some bl ∧ Old w wr) (fun _ j _ => T.length - (intOf j).toNat)
            case atStart => exact ⟨0, n, rfl, Nat.zero_le _, by rw [show rowsD i T 0 = [] from rfl, List.append_nil]; exact hown, by rw [show rowsD i T 0 = [] from rfl, List.append_nil]; exact hgood, by rw [show rowsD i T 0 = [] from rfl, List.append_nil]; exact hmap, hn, hub, o1⟩
            case round =>
              clear hown hmap hgood hn hub o1
              obtain ⟨k, n, rfl, hk, hown, hgood, hmap, hn, hub, ho⟩ := hrel
              by_cases hlt2 : k < T.length
              · have hk1 : (k : Int) < T.length := by omega
                obtain ⟨t, htk⟩ : ∃ t, T[k]? = some t := ⟨_, List.getElem?_eq_getElem hlt2⟩
                obtain ⟨a4, n4, c4', a5, n5, c5', a6, n6, c6', hcs⟩ := Hatt.out k t htk
                obtain rfl := Hat.out (by omega)
                have hrow : flatD S i ++ rowsD i T (k + 1) = (flatD S i ++ rowsD i T k) ++ [rowD i k t] := by rw [rowsD_succ htk, List.append_assoc]
                have hlen : (flatD S i ++ rowsD i T k).length = totD S i + k := by rw [List.length_append, flatD_length, rowsD_length k hk]
                have Hrow := Lib.hid hrow
                have g0 : ∀ V, Old wr V → V.cell? ⟨bt, ot + k * 8, none⟩ = some (.int .i64 t.kind) := fun V o => (hcs V (ho.trans o)).1
                have g1 : ∀ V, Old wr V → V.cell? ⟨bt, ot + k * 8 + 1, none⟩ = some (.string t.name) := fun V o => (hcs V (ho.trans o)).2.1
                have g2 : ∀ V, Old wr V → V.cell? ⟨bt, ot + k * 8 + 2, none⟩ = some (.string t.title) := fun V o => (hcs V (ho.trans o)).2.2.1
                have g3 : ∀ V, Old wr V → V.cell? ⟨bt, ot + k * 8 + 3, none⟩ = some (.int .i64 t.n3) := fun V o => (hcs V (ho.trans o)).2.2.2.1
                have g4 : ∀ V, Old wr V → V.cell? ⟨bt, ot + k * 8 + 4, none⟩ = some (.slice a4 n4 c4') := fun V o => (hcs V (ho.trans o)).2.2.2.2.1
                have g5 : ∀ V, Old wr V → V.cell? ⟨bt, ot + k * 8 + 5, none⟩ = some (.slice a5 n5 c5') := fun V o => (hcs V (ho.trans o)).2.2.2.2.2.1
                have g6 : ∀ V, Old wr V → V.cell? ⟨bt, ot + k * 8 + 6, none⟩ = some (.slice a6 n6 c6') := fun V o => (hcs V (ho.trans o)).2.2.2.2.2.2.1
                have g7 : ∀ V, Old wr V → V.cell? ⟨bt, ot + k * 8 + 7, none⟩ = some (.int .i64 t.line) := fun V o => (hcs V (ho.trans o)).2.2.2.2.2.2.2
                have HN := Lib.hid (fun V (o : Old w V) => Norm_any t.name V (HT.out.old o))
                have HO := Lib.hid hown
                have HG := Lib.hid hgood
                have HM := Lib.hid hmap
                have Hlen := Lib.hid hlen
                have hsz := normR_size t.name
                have HErr := Lib.hid (fun c (h : badD (flatD S i ++ rowsD i T k) t c) => (show ErrD S ⟨c, i, t.line, 0, t.name⟩ from ⟨i, k, T, t, c, HTi.out, htk, hgood, h, rfl⟩))
                clear hcs hown hgood hmap hlen hrow htk
                generalize flatD S i ++ rowsD i T k = l0 at *
                go_upto_region 17 with fail
                have oa : Old wr (wr.alloc (.cells #[.int .i64 t.kind, .string t.name, .string t.title, .int .i64 t.n3, .slice a4 n4 c4', .slice a5 n5 c5', .slice a6 n6 c6', .int .i64 t.line] 81)) := (Old.refl wr).alloc _
                have C0 := later (show (wr.alloc (.cells #[.int .i64 t.kind, .string t.name, .string t.title, .int .i64 t.n3, .slice a4 n4 c4', .slice a5 n5 c5', .slice a6 n6 c6', .int .i64 t.line] 81)).cell? ⟨wr.heap.size, 0, none⟩ = some (.int .i64 t.kind) by simp [go_sem])
                have C1 := later (show (wr.alloc (.cells #[.int .i64 t.kind, .string t.name, .string t.title, .int .i64 t.n3, .slice a4 n4 c4', .slice a5 n5 c5', .slice a6 n6 c6', .int .i64 t.line] 81)).cell? ⟨wr.heap.size, 1, none⟩ = some (.string t.name) by simp [go_sem])
                have C7 := later (show (wr.alloc (.cells #[.int .i64 t.kind, .string t.name, .string t.title, .int .i64 t.n3, .slice a4 n4 c4', .slice a5 n5 c5', .slice a6 n6 c6', .int .i64 t.line] 81)).cell? ⟨wr.heap.size, 7, none⟩ = some (.int .i64 t.line) by simp [go_sem])
                have oA := ho.trans oa
                have hgb : bl < wr.heap.size := HM.out.lt
                replace HO := Lib.hid (HO.out.old oa)
                replace HM := Lib.hid (HM.out.old oa)
                have hgA : wr.heap.size < (wr.alloc (.cells #[.int .i64 t.kind, .string t.name, .string t.title, .int .i64 t.n3, .slice a4 n4 c4', .slice a5 n5 c5', .slice a6 n6 c6', .int .i64 t.line] 81)).heap.size := by simp
                generalize wr.alloc (.cells #[.int .i64 t.kind, .string t.name, .string t.title, .int .i64 t.n3, .slice a4 n4 c4', .slice a5 n5 c5', .slice a6 n6 c6', .int .i64 t.line] 81) = wA at *
                generalize wr.heap.size = g at *
                clear g0 g1 g2 g3 g4 g5 g6 g7 oa ho
                by_cases he : (normR t.name).2 = 0
                · rw [he] at HN
                  rw [show (normR t.name).1 = nrm t.name from rfl] at HN
                  have hs' : (nrm t.name).size ≤ 9223372036854775807 := by unfold nrm; omega
                  generalize hq : nrm t.name = q at *
                  by_cases hin : q ∈ l0.map Dn.norm
                  · have Hz := Lib.hid (cntD_in hin)
                    have HB1 := Lib.hid (HErr.out 71 (.inr ⟨he, by rw [hq]; exact hin, rfl⟩))
                    clear hin hsz he hq
                    go_upto_region 21 with (first
                      | (go_at_call 20; refine (HN.out _ oA).mono ?_; rintro e w1 ⟨rfl, o1⟩; have hlk := run_lookup_one Tryz.underlying9 Tryz.underlying62 Tryz.underlying3 zeroInt (HM.out.old o1) hs' Hz.out))
                    go_wp2_with (go_at_call 41; refine (FNew_any 71 _ _ 0 t.name w1 (by decide)).mono ?_; rintro e w2 ⟨⟨v, rfl, hE⟩, o2⟩)
                    go_ret2
                    exact ⟨.inl ⟨_, v, .inr ⟨h64, by have := HtS.out; omega, HB1.out⟩, rfl, hE⟩, oA.trans (o1.trans o2)⟩
                  · have Hz := Lib.hid (cntD_out hin)
                    have Hgood : Hid (GoodD (l0 ++ [rowD i k t])) := Lib.hid (HG.out.snoc he (by show nrm t.name ∉ _; rw [hq]; exact hin))
                    have Hcnt : Hid (cntD (l0 ++ [rowD i k t]) = fun x => if x = q then some 1 else cntD l0 x) := Lib.hid (by rw [cntD_snoc, show (rowD i k t).norm = q from hq])
                    have Henc : Hid (dnE.enc (rowD i k t) = [.string t.name, .string q, .int .i64 i, .int .i64 k, .int .i64 t.kind, .int .i64 t.line]) := Lib.hid (by rw [← hq]; rfl)
                    clear hin hsz he hq
                    go_upto_region 23 with (first
                      | (go_at_call 20; refine (HN.out _ oA).mono ?_; rintro e w1 ⟨rfl, o1⟩; have hlk := run_lookup_none Tryz.underlying9 Tryz.underlying62 Tryz.underlying3 zeroInt (HM.out.old o1) hs' Hz.out)
                      | (refine wpList_update_mto (w0 := w) rfl _ _ _ _ rfl _ _ Tryz.underlying9 Tryz.underlying62 Tryz.underlying3 bl n _ rfl (HM.out.old o1) (by omega) q 1 rfl hs' rfl ⟨by omega, by omega⟩ (oA.trans o1) hwb ?_; intro w2 hm2 o2 hg2))
                    have hgl : g < w1.heap.size := by have := o1.size; omega
                    have hne : some g ≠ some bl := by intro e; have := Option.some.inj e; omega
                    have hbk := hg2.block g hgl hne
                    have D0 := later ((World.cell?_of_block (a := ⟨g, 0, none⟩) hbk).trans (C0 w1 o1))
                    have D1 := later ((World.cell?_of_block (a := ⟨g, 1, none⟩) hbk).trans (C1 w1 o1))
                    have D7 := later ((World.cell?_of_block (a := ⟨g, 7, none⟩) hbk).trans (C7 w1 o1))
                    rw [← Hcnt.out] at hm2
                    have HM2 := Lib.hid hm2
                    have HO2 := Lib.hid ((HO.out.old o1).kept hg2 (.inr hub))
                    have o12 : w1.heap.size ≤ w2.heap.size := hg2.size
                    obtain ⟨i0, hi0, hz0, hz1, hz2⟩ := info_parts infoDn
                    clear hlk hm2 hg2 hbk C0 C1 C7
                    go_wp2_with (at_builtin; go_loud (refine wpList_append_lies _ rfl _ _ 47 rfl w.heap.size 84 i0 _ 6 64 Tryz.underlying47 hi0 hz0 hz1 hz2 rfl (by omega) _ l0.length (dnE.all l0) rfl (World.ownsRow.alloc HO2.out _) ⟨w2.heap.size, 0, none⟩ 1 1 (dnE.enc (rowD i k t)) rfl rfl (by rw [Henc.out]; exact World.news_of_block (cs := #[.string t.name, .string q, .int .i64 i, .int .i64 k, .int .i64 t.kind, .int .i64 t.line]) (t := 84) (fr := (0, 0)) (heap_alloc_new w2 _)) (dnE.one _) (by omega) (by have := Hlen.out; simp [maxLen]; omega) (by have := Hlen.out; omega) (by have := o2.size; simp; omega) (w2.heap.size + 1) (by simp [go_sem]) ?_); intro gg cp w3 hown3 hgrow hat3 hltg)
                    have hown4 : OwnS dnE 84 w w3 (.slice (some ⟨gg, 0, none⟩) (l0.length + 1) cp) (l0 ++ [rowD i k t]) := by
                      unfold OwnS
                      rw [List.length_append, Enc.all_append, Enc.all_one]
                      exact hown3
                    have hbl2 := HM2.out.lt
                    have hub3 : (Value.slice (some ⟨gg, 0, none⟩) (l0.length + 1) cp).ownBlock ≠ some bl := by
                      intro e
                      obtain rfl : gg = bl := Option.some.inj e
                      rcases hat3 with h | h
                      · exact hub h
                      · omega
                    have hm3 := (HM2.out.old ((Old.refl w2).alloc _)).kept hgrow (Ne.symm hub)
                    have ho3 : Old w w3 := (o2.alloc _).grown hgrow (fun b hb => (World.ownsRow.lt HO2.out b hb).1)
                    rw [← Hrow.out] at hown4 hm3
                    have hg3 := Hgood.out
                    rw [← Hrow.out] at hg3
                    have HO3 := Lib.hid hown4
                    have HM3 := Lib.hid hm3
                    have HG3 := Lib.hid hg3
                    clear hown3 hown4 hgrow hat3 hm3 hg3
                    go_roundw
                    case rel => exact ⟨k + 1, n + 1, by go_num, by omega, HO3.out, HG3.out, HM3.out, by omega, hub3, ho3⟩
                    case measure => simp [intOf]; omega
                · have HE := Lib.hid he
                  have HB2 := Lib.hid (HErr.out _ (.inl ⟨he, rfl⟩))
                  have hne : ((normR t.name).2 != 0) = true := by simpa using he
                  have heq : ((normR t.name).2 == 0) = false := by simpa using he
                  clear he hsz
                  generalize normR t.name = q at *
                  obtain ⟨q1, q2⟩ := q
                  dsimp only at *
                  go_wp2_with (first
                      | (go_at_call 20; refine (HN.out _ oA).mono ?_; rintro e w1 ⟨rfl, o1⟩)
                      | (go_at_call 41; refine (FNew_any _ _ _ 0 t.name w1 HE.out).mono ?_; rintro e w2 ⟨⟨v, rfl, hE⟩, o2⟩))
                  go_ret2
                  exact ⟨.inl ⟨_, v, .inr ⟨h64, by have := HtS.out; omega, HB2.out⟩, rfl, hE⟩, oA.trans (o1.trans o2)⟩
              · obtain rfl : k = T.length := by omega
                have hk1 : ¬ (T.length : Int) < T.length := by omega
                have hfl := flatD_succ HTi.out
                rw [← hfl] at hown hgood hmap
                have hts := totD_succ HTi.out
                have HO := Lib.hid hown
                have HG := Lib.hid hgood
                have HM := Lib.hid hmap
                have Hts := Lib.hid hts
                clear hown hgood hmap hfl hts
                go_wp2_with fail
                go_roundw
                case rel => exact ⟨i + 1, n, by go_num, by omega, HO.out, HG.out, HM.out, by rw [Hts.out]; exact hn, hub, ho⟩
                case measure => simp [intOf]; omega
          · obtain rfl : i = S.length := by omega
            have hi1 : ¬ (S.length : Int) < S.length := by omega
            go_wp2_with fail
            go_ret2
            exact ⟨.inr ⟨_, _, ⟨h64, by have := HtS.out; omega, rfl, hgood⟩, rfl, hown⟩, ho⟩
theorem CollectE_any (v : Value) (S : List (List Tq)) (w : World) (hv : Sqs w v S) (hT : Tabs w) (hS : ∀ T ∈ S, T.length ≤ 140737488355328) :
    Calls Tryz.prog 22 #[v] w fun e w' => RetE w w' S e ∧ Old w w' := by
  by_cases h : 64 < S.length
  · exact (CollectE_many v S w hv h)
  · exact CollectE_few v S w hv hT (by omega) hS
end Go.Proofs.YtpifkinlaicliaaGreatDoor
