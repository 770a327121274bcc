/-
  THE DIRECTORY OF SOURCES, OR THE FIRST FAULT: the document's Collect.
-/
import Derived.Test.YtpifkinlaicliaaGreatDoorZCollectE
import Derived.Test.YtpifkinlaicliaaGreatDoorZColR
namespace Go.Proofs.YtpifkinlaicliaaGreatDoor
open Go.RowKit Go.Maps
attribute [local go_sem] Old.refl Old.alloc Old.drew Old.setCell OldW.old

/-- the box of a fault -/
structure FBox (w : World) (B : Nat) : Prop where
  c0 : ∀ V, Old w V → V.cell? ⟨B, 0, none⟩ = some (.int .i64 0)
  c1 : ∀ V, Old w V → V.cell? ⟨B, 1, none⟩ = some (.int .i64 0)
  c2 : ∀ V, Old w V → V.cell? ⟨B, 2, none⟩ = some (.int .i64 0)
  c3 : ∀ V, Old w V → V.cell? ⟨B, 3, none⟩ = some (.int .i64 0)
  c4 : ∀ V, Old w V → V.cell? ⟨B, 4, none⟩ = some (.string ⟨#[]⟩)
  c5 : ∀ V, Old w V → V.cell? ⟨B, 5, none⟩ = some (.slice none 0 0)
  fz : ∀ V, Old w V → ∀ j, V.frozen? ⟨B, j, none⟩ = false
theorem FBox.new (w : World) : FBox (w.alloc (.cells #[.int .i64 0, .int .i64 0, .int .i64 0, .int .i64 0, .string ⟨#[]⟩, .slice none 0 0] 54)) w.heap.size :=
  ⟨later (by simp [go_sem]), later (by simp [go_sem]), later (by simp [go_sem]), later (by simp [go_sem]), later (by simp [go_sem]), later (by simp [go_sem]), fun V o j => by rw [frozen_old o (by simp)]; simp [go_sem]⟩
def zeroF : Flt := ⟨0, 0, 0, 0, ⟨#[]⟩⟩
/-- what the document's Collect hands back -/
def RetF (w w' : World) (S : List (List Tq)) (e : Ending) : Prop :=
  (∃ f, ColD S (.error f) ∧ e = .returned (.tuple #[.slice none 0 0, .agg (fltC f).toArray])) ∨
  (∃ l u, ColD S (.ok l) ∧ e = .returned (.tuple #[u, .agg (fltC zeroF).toArray]) ∧ OwnS dnE 84 w w' u l)
theorem old_six {w V : World} {B : Nat} {v0 v1 v2 v3 v4 v5 : Value} (o : Old w V) (h : w.heap.size ≤ B) : Old w ((((((V.setCell ⟨B, 0, none⟩ v0).setCell ⟨B, 1, none⟩ v1).setCell ⟨B, 2, none⟩ v2).setCell ⟨B, 3, none⟩ v3).setCell ⟨B, 4, none⟩ v4).setCell ⟨B, 5, none⟩ v5) :=
  (((((o.setCell (p := ⟨B, 0, none⟩) h _).setCell (p := ⟨B, 1, none⟩) h _).setCell (p := ⟨B, 2, none⟩) h _).setCell (p := ⟨B, 3, none⟩) h _).setCell (p := ⟨B, 4, none⟩) h _).setCell (p := ⟨B, 5, none⟩) h _
theorem own_six {α : Type} {c : Enc α} {E : TypeId} {w wz V : World} {u : Value} {l : List α} {B : Nat} {v0 v1 v2 v3 v4 v5 : Value} (h : OwnS c E wz V u l) (hB : B < wz.heap.size) (hw : w.heap.size ≤ wz.heap.size) :
    OwnS c E w ((((((V.setCell ⟨B, 0, none⟩ v0).setCell ⟨B, 1, none⟩ v1).setCell ⟨B, 2, none⟩ v2).setCell ⟨B, 3, none⟩ v3).setCell ⟨B, 4, none⟩ v4).setCell ⟨B, 5, none⟩ v5) u l := by
  have kc : ∀ (V : World) (o : Nat) (x : Value), V.grownBy (V.setCell ⟨B, o, none⟩ x) (some B) := fun V o x => ⟨rfl, rfl, rfl, (KeepsWalks.setCell V _ x).size, fun k _ hk => Below.heap_setCell _ _ _ k (fun e => hk (by rw [e]))⟩
  have hne : u.ownBlock ≠ some B := by
    intro e
    have := (World.ownsRow.lt h B e).1
    omega
  have h1 := h.kept (kc _ 0 v0) (.inr hne)
  have h2 := h1.kept (kc _ 1 v1) (.inr hne)
  have h3 := h2.kept (kc _ 2 v2) (.inr hne)
  have h4 := h3.kept (kc _ 3 v3) (.inr hne)
  have h5 := h4.kept (kc _ 4 v4) (.inr hne)
  have h6 := h5.kept (kc _ 5 v5) (.inr hne)
  exact OwnS.lower h6 hw
set_option maxRecDepth 100000 in
set_option maxHeartbeats 3200000 in
theorem RCollect_many (v : Value) (S : List (List Tq)) (w : World) (hv : Sqs w v S) (h64 : 64 < S.length) :
    Calls Tryz.prog 23 #[v] w fun e w' => RetF w w' S e ∧ Old w w' := by
  obtain ⟨a, cap, rfl, hc1, hc2⟩ := Seqs.form hv
  obtain ⟨bs, os, has, hats⟩ := Sqs.open hv
  have Has := Lib.hid has
  have Hats := Lib.hid hats
  clear hv has hats
  have hi64 : (64 : Int) < S.length := by omega
  go_enter Tryz.func23, Tryz.ntmps23
  go_upto_region 1 with fail
  have hw1 : Old w (w.alloc (.cells #[.int .i64 0, .int .i64 0, .int .i64 0, .int .i64 0, .string ⟨#[]⟩, .slice none 0 0] 54)) := (Old.refl w).alloc _
  have HX := Lib.hid (FBox.new w)
  have hBw : w.heap.size ≤ w.heap.size := Nat.le_refl _
  generalize w.alloc (.cells #[.int .i64 0, .int .i64 0, .int .i64 0, .int .i64 0, .string ⟨#[]⟩, .slice none 0 0] 54) = w1 at *
  generalize hBB : w.heap.size = B at *
  go_wp2_with fail
  go_loopw [4, 16] (fun x j wr => ∃ (i : Nat) (z : Int), j = .int .i64 i ∧ x = .int .i64 z ∧ i ≤ S.length ∧ Old w1 wr) (fun _ j _ => S.length - (intOf j).toNat)
  case atStart => exact ⟨0, 0, rfl, rfl, Nat.zero_le _, Old.refl _⟩
  case round =>
    obtain ⟨i, z, rfl, rfl, hi, ho⟩ := hrel
    by_cases hlt : i < S.length
    · have hi1 : (i : Int) < S.length := by omega
      obtain ⟨T, hTi⟩ : ∃ T, S[i]? = some T := ⟨_, List.getElem?_eq_getElem hlt⟩
      obtain ⟨a0, n0, c0', ax, cx, hcs, hTs, k1, k2⟩ := Hats.out i T hTi
      obtain rfl := Has.out (by omega)
      have c0 : ∀ V, Old wr V → V.cell? ⟨bs, os + i * 2, none⟩ = some (.slice a0 n0 c0') := fun V o => (hcs V (hw1.trans (ho.trans o))).1
      have c1 : ∀ V, Old wr V → V.cell? ⟨bs, os + i * 2 + 1, none⟩ = some (.slice ax T.length cx) := fun V o => (hcs V (hw1.trans (ho.trans o))).2
      clear hcs hTs hTi
      go_wp2_with fail
      go_roundw
      case rel => exact ⟨i + 1, _, by go_num, rfl, by omega, ho.alloc _⟩
      case measure => simp [intOf]; omega
    · obtain rfl : i = S.length := by omega
      have hi1 : ¬ (S.length : Int) < S.length := by omega
      have HC := Lib.hid (At_any 2 0 0 0 ⟨#[]⟩ wr)
      go_wp2_with (go_at_call 42; refine HC.out.mono ?_; rintro e w2 ⟨rfl, o1⟩; have q0 := HX.out.c0 _ (ho.trans o1); have q1 := HX.out.c1 _ (ho.trans o1); have q2 := HX.out.c2 _ (ho.trans o1); have q3 := HX.out.c3 _ (ho.trans o1); have q4 := HX.out.c4 _ (ho.trans o1); have q5 := HX.out.c5 _ (ho.trans o1); have qf := HX.out.fz _ (ho.trans o1); simp only [fltC])
      (try simp only [Exit.inBlock, Exit.then])
      refine bodyPost_ret (v := .tuple #[.slice none 0 0, .agg (fltC ⟨2, 0, 0, 0, ⟨#[]⟩⟩).toArray]) (by simp [results, Tryz.results23, go_sem, q0, q1, q2, q3, q4, q5, fltC]) rfl ⟨.inl ⟨⟨2, 0, 0, 0, ⟨#[]⟩⟩, .inl ⟨.inl h64, rfl⟩, rfl⟩, old_six (hw1.trans (ho.trans o1)) (by omega)⟩
set_option maxRecDepth 100000 in
set_option maxHeartbeats 3200000 in
theorem RCollect_few (v : Value) (S : List (List Tq)) (w : World) (hv : Sqs w v S) (h64 : S.length ≤ 64) (hS : ∀ T ∈ S, T.length ≤ 140737488355328) :
    Calls Tryz.prog 23 #[v] w fun e w' => RetF w w' S e ∧ Old w w' := by
  obtain ⟨a, cap, rfl, hc1, hc2⟩ := Seqs.form hv
  obtain ⟨bs, os, has, hats⟩ := Sqs.open hv
  have Has := Lib.hid has
  have Hats := Lib.hid hats
  have HB := Lib.hid (fun i (hi : i ≤ S.length) => Nat.le_trans (totD_mono S hi) (Nat.le_trans (totD_bound hS S.length) (Nat.mul_le_mul_right 140737488355328 h64)))
  clear hv has hats hS
  have hi64 : ¬ (64 : Int) < S.length := by omega
  go_enter Tryz.func23, Tryz.ntmps23
  go_upto_region 1 with fail
  have hwz : Old w (w.alloc (.cells #[.int .i64 0, .int .i64 0, .int .i64 0, .int .i64 0, .string ⟨#[]⟩, .slice none 0 0] 54)) := (Old.refl w).alloc _
  have HX := Lib.hid (FBox.new w)
  have hBw : w.heap.size ≤ w.heap.size := Nat.le_refl _
  have hBz : w.heap.size < (w.alloc (.cells #[.int .i64 0, .int .i64 0, .int .i64 0, .int .i64 0, .string ⟨#[]⟩, .slice none 0 0] 54)).heap.size := by simp
  generalize w.alloc (.cells #[.int .i64 0, .int .i64 0, .int .i64 0, .int .i64 0, .string ⟨#[]⟩, .slice none 0 0] 54) = wz at *
  generalize hBB : w.heap.size = B at *
  go_wp2_with fail
  go_loopw [4, 16] (fun x j wr => ∃ (i : Nat), j = .int .i64 i ∧ x = .int .i64 (totD S i) ∧ i ≤ S.length ∧ Old wz wr) (fun _ j _ => S.length - (intOf j).toNat)
  case atStart => exact ⟨0, rfl, rfl, Nat.zero_le _, Old.refl _⟩
  case round =>
    obtain ⟨i, rfl, rfl, hi, ho⟩ := hrel
    by_cases hlt : i < S.length
    · have hi1 : (i : Int) < S.length := by omega
      obtain ⟨T, hTi⟩ : ∃ T, S[i]? = some T := ⟨_, List.getElem?_eq_getElem hlt⟩
      obtain ⟨a0, n0, c0', ax, cx, hcs, hTs, k1, k2⟩ := Hats.out i T hTi
      obtain rfl := Has.out (by omega)
      have c0 : ∀ V, Old wr V → V.cell? ⟨bs, os + i * 2, none⟩ = some (.slice a0 n0 c0') := fun V o => (hcs V (hwz.trans (ho.trans o))).1
      have c1 : ∀ V, Old wr V → V.cell? ⟨bs, os + i * 2 + 1, none⟩ = some (.slice ax T.length cx) := fun V o => (hcs V (hwz.trans (ho.trans o))).2
      have hsu := totD_succ hTi
      have hb1 := HB.out (i + 1) hlt
      have Hsu : Hid (totD S (i + 1) = totD S i + T.length) := Lib.hid hsu
      rw [hsu] at hb1
      have hb2 : (totD S i : Int) + T.length ≤ 9223372036854775807 := by omega
      clear hcs hTs hTi hsu
      go_wp2_with fail
      go_roundw
      case rel => exact ⟨i + 1, by go_num, by rw [Hsu.out]; go_num, by omega, ho.alloc _⟩
      case measure => simp [intOf]; omega
    · obtain rfl : i = S.length := by omega
      have hi1 : ¬ (S.length : Int) < S.length := by omega
      by_cases hbig : 1000 < totD S S.length
      · have hbi : (1000 : Int) < totD S S.length := by omega
        have HC := Lib.hid (At_any 2 0 0 0 ⟨#[]⟩ wr)
        go_wp2_with (go_at_call 42; refine HC.out.mono ?_; rintro e w2 ⟨rfl, o1⟩; have q0 := HX.out.c0 _ (ho.trans o1); have q1 := HX.out.c1 _ (ho.trans o1); have q2 := HX.out.c2 _ (ho.trans o1); have q3 := HX.out.c3 _ (ho.trans o1); have q4 := HX.out.c4 _ (ho.trans o1); have q5 := HX.out.c5 _ (ho.trans o1); have qf := HX.out.fz _ (ho.trans o1); simp only [fltC])
        (try simp only [Exit.inBlock, Exit.then])
        refine bodyPost_ret (v := .tuple #[.slice none 0 0, .agg (fltC ⟨2, 0, 0, 0, ⟨#[]⟩⟩).toArray]) (by simp [results, Tryz.results23, go_sem, q0, q1, q2, q3, q4, q5, fltC]) rfl ⟨.inl ⟨_, .inl ⟨.inr hbig, rfl⟩, rfl⟩, old_six (hwz.trans (ho.trans o1)) (by omega)⟩
      · have hbi : ¬ (1000 : Int) < totD S S.length := by omega
        have HtS : Hid (¬ 1000 < totD S S.length) := Lib.hid hbig
        clear hi1 hbig hi
        go_wp2_with fail
        clear hbi
        go_loopw [7, 36] (fun u j wr => ∃ (i : Nat), j = .int .i64 i ∧ i ≤ S.length ∧ OwnS dnE 84 wz wr u (flatD S i) ∧ GoodD (flatD S i) ∧ Old wz wr) (fun _ j _ => S.length - (intOf j).toNat)
        case atStart => exact ⟨0, rfl, Nat.zero_le _, OwnS.nil _ _ _ _, GoodD.nil, ho⟩
        case round =>
          clear ho
          obtain ⟨i, rfl, hi, hown, hgood, ho⟩ := hrel
          by_cases hlt : i < S.length
          · have hi1 : (i : Int) < S.length := by omega
            obtain ⟨T, hTi⟩ : ∃ T, S[i]? = some T := ⟨_, List.getElem?_eq_getElem hlt⟩
            obtain ⟨a0, n0, c0', ax, cx, hcs, hTs, k1, k2⟩ := Hats.out i T hTi
            obtain rfl := Has.out (by omega)
            have c0 : ∀ V, Old wr V → V.cell? ⟨bs, os + i * 2, none⟩ = some (.slice a0 n0 c0') := fun V o => (hcs V (hwz.trans (ho.trans o))).1
            have c1 : ∀ V, Old wr V → V.cell? ⟨bs, os + i * 2 + 1, none⟩ = some (.slice ax T.length cx) := fun V o => (hcs V (hwz.trans (ho.trans o))).2
            have HTi := Lib.hid hTi
            obtain ⟨bt, ot, hat, hatt⟩ := Tqs.open hTs
            have Hat := Lib.hid hat
            have Hatt := Lib.hid hatt
            have hsum : totD S i + T.length ≤ 1000 := by
              have h1 := totD_succ hTi
              have h2 := totD_mono S (show i + 1 ≤ S.length from hlt)
              have h3 := HtS.out
              omega
            have HO := Lib.hid hown
            have HG := Lib.hid hgood
            clear hcs hTs hat hatt hTi hown hgood
            go_wp2_with fail
            have oa : Old wr (wr.alloc (.cells #[.slice a0 n0 c0', .slice ax T.length cx] 75)) := (Old.refl wr).alloc _
            have o1 := ho.trans oa
            have hown := HO.out.old oa
            have hgood := HG.out
            generalize wr.alloc (.cells #[.slice a0 n0 c0', .slice ax T.length cx] 75) = w1 at *
            clear c0 c1 ho HO HG oa
            go_loopw [7, 44] (fun u j wr => ∃ (k : Nat), j = .int .i64 k ∧ k ≤ T.length ∧ OwnS dnE 84 wz wr u (flatD S i ++ rowsD i T k) ∧ GoodD (flatD S i ++ rowsD i T k) ∧ Old wz wr) (fun _ j _ => T.length - (intOf j).toNat)
            case atStart => exact ⟨0, rfl, Nat.zero_le _, by rw [show rowsD i T 0 = [] from rfl, List.append_nil]; exact hown, by rw [show rowsD i T 0 = [] from rfl, List.append_nil]; exact hgood, o1⟩
            case round =>
              clear hown hgood o1
              obtain ⟨k, rfl, hk, hown, hgood, ho⟩ := hrel
              by_cases hlt2 : k < T.length
              · have hk1 : (k : Int) < T.length := by omega
                obtain ⟨t, htk⟩ : ∃ t, T[k]? = some t := ⟨_, List.getElem?_eq_getElem hlt2⟩
                obtain ⟨a4, n4, c4', a5, n5, c5', a6, n6, c6', hcs⟩ := Hatt.out k t htk
                obtain rfl := Hat.out (by omega)
                have hrow : flatD S i ++ rowsD i T (k + 1) = (flatD S i ++ rowsD i T k) ++ [rowD i k t] := by rw [rowsD_succ htk, List.append_assoc]
                have hlen : (flatD S i ++ rowsD i T k).length = totD S i + k := by rw [List.length_append, flatD_length, rowsD_length k hk]
                have Hrow := Lib.hid hrow
                have g0 : ∀ V, Old wr V → V.cell? ⟨bt, ot + k * 8, none⟩ = some (.int .i64 t.kind) := fun V o => (hcs V (hwz.trans (ho.trans o))).1
                have g1 : ∀ V, Old wr V → V.cell? ⟨bt, ot + k * 8 + 1, none⟩ = some (.string t.name) := fun V o => (hcs V (hwz.trans (ho.trans o))).2.1
                have g2 : ∀ V, Old wr V → V.cell? ⟨bt, ot + k * 8 + 2, none⟩ = some (.string t.title) := fun V o => (hcs V (hwz.trans (ho.trans o))).2.2.1
                have g3 : ∀ V, Old wr V → V.cell? ⟨bt, ot + k * 8 + 3, none⟩ = some (.int .i64 t.n3) := fun V o => (hcs V (hwz.trans (ho.trans o))).2.2.2.1
                have g4 : ∀ V, Old wr V → V.cell? ⟨bt, ot + k * 8 + 4, none⟩ = some (.slice a4 n4 c4') := fun V o => (hcs V (hwz.trans (ho.trans o))).2.2.2.2.1
                have g5 : ∀ V, Old wr V → V.cell? ⟨bt, ot + k * 8 + 5, none⟩ = some (.slice a5 n5 c5') := fun V o => (hcs V (hwz.trans (ho.trans o))).2.2.2.2.2.1
                have g6 : ∀ V, Old wr V → V.cell? ⟨bt, ot + k * 8 + 6, none⟩ = some (.slice a6 n6 c6') := fun V o => (hcs V (hwz.trans (ho.trans o))).2.2.2.2.2.2.1
                have g7 : ∀ V, Old wr V → V.cell? ⟨bt, ot + k * 8 + 7, none⟩ = some (.int .i64 t.line) := fun V o => (hcs V (hwz.trans (ho.trans o))).2.2.2.2.2.2.2
                have HN := Lib.hid (fun V => RNorm_any t.name V)
                have HO := Lib.hid hown
                have HG := Lib.hid hgood
                have Hlen := Lib.hid hlen
                have hsz := normR_size t.name
                have HErr := Lib.hid (fun c (h : badD (flatD S i ++ rowsD i T k) t c) => (show ErrD S ⟨c, i, t.line, 0, t.name⟩ from ⟨i, k, T, t, c, HTi.out, htk, hgood, h, rfl⟩))
                clear hcs hown hgood hlen hrow htk
                generalize flatD S i ++ rowsD i T k = l0 at *
                go_upto_region 16 with fail
                have oa : Old wr (wr.alloc (.cells #[.int .i64 t.kind, .string t.name, .string t.title, .int .i64 t.n3, .slice a4 n4 c4', .slice a5 n5 c5', .slice a6 n6 c6', .int .i64 t.line] 81)) := (Old.refl wr).alloc _
                have C0 := later (show (wr.alloc (.cells #[.int .i64 t.kind, .string t.name, .string t.title, .int .i64 t.n3, .slice a4 n4 c4', .slice a5 n5 c5', .slice a6 n6 c6', .int .i64 t.line] 81)).cell? ⟨wr.heap.size, 0, none⟩ = some (.int .i64 t.kind) by simp [go_sem])
                have C1 := later (show (wr.alloc (.cells #[.int .i64 t.kind, .string t.name, .string t.title, .int .i64 t.n3, .slice a4 n4 c4', .slice a5 n5 c5', .slice a6 n6 c6', .int .i64 t.line] 81)).cell? ⟨wr.heap.size, 1, none⟩ = some (.string t.name) by simp [go_sem])
                have C7 := later (show (wr.alloc (.cells #[.int .i64 t.kind, .string t.name, .string t.title, .int .i64 t.n3, .slice a4 n4 c4', .slice a5 n5 c5', .slice a6 n6 c6', .int .i64 t.line] 81)).cell? ⟨wr.heap.size, 7, none⟩ = some (.int .i64 t.line) by simp [go_sem])
                have oA := ho.trans oa
                replace HO := Lib.hid (HO.out.old oa)
                have hgA : wr.heap.size < (wr.alloc (.cells #[.int .i64 t.kind, .string t.name, .string t.title, .int .i64 t.n3, .slice a4 n4 c4', .slice a5 n5 c5', .slice a6 n6 c6', .int .i64 t.line] 81)).heap.size := by simp
                generalize wr.alloc (.cells #[.int .i64 t.kind, .string t.name, .string t.title, .int .i64 t.n3, .slice a4 n4 c4', .slice a5 n5 c5', .slice a6 n6 c6', .int .i64 t.line] 81) = wA at *
                generalize wr.heap.size = g at *
                clear g0 g1 g2 g3 g4 g5 g6 g7 oa ho
                by_cases he : (normR t.name).2 = 0
                · rw [he] at HN
                  rw [show (normR t.name).1 = nrm t.name from rfl] at HN
                  have hs' : (nrm t.name).size ≤ 9223372036854775807 := by unfold nrm; omega
                  generalize hq : nrm t.name = q at *
                  by_cases hin : q ∈ l0.map Dn.norm
                  · have Hin : Hid (hasN l0 q) := Lib.hid hin
                    have HB1 := Lib.hid (HErr.out 71 (.inr ⟨he, by rw [hq]; exact hin, rfl⟩))
                    clear hin hsz he hq
                    go_wp2_with (first
                      | (go_at_call 21; refine (HN.out _).mono ?_; rintro e w1 ⟨rfl, o1⟩)
                      | (go_at_call 43; refine (RIndex_any _ l0 q w1 (HO.out.old o1).recs).mono ?_; rintro e w2 ⟨⟨kk, rfl, hkA, hkB⟩, rfl⟩; have hge := hkA.out Hin.out; clear hkA hkB)
                      | (go_at_call 42; refine (At_any _ _ _ 0 t.name _).mono ?_; rintro e w3 ⟨rfl, o3⟩; have q0 := HX.out.c0 _ (oA.trans (o1.trans o3)); have q1 := HX.out.c1 _ (oA.trans (o1.trans o3)); have q2 := HX.out.c2 _ (oA.trans (o1.trans o3)); have q3 := HX.out.c3 _ (oA.trans (o1.trans o3)); have q4 := HX.out.c4 _ (oA.trans (o1.trans o3)); have q5 := HX.out.c5 _ (oA.trans (o1.trans o3)); have qf := HX.out.fz _ (oA.trans (o1.trans o3)); simp only [fltC]))
                    (try simp only [Exit.inBlock, Exit.then])
                    refine bodyPost_ret (v := .tuple #[.slice none 0 0, .agg (fltC ⟨71, i, t.line, 0, t.name⟩).toArray]) (by simp [results, Tryz.results23, go_sem, q0, q1, q2, q3, q4, q5, fltC]) rfl ⟨.inl ⟨_, .inr ⟨h64, by have := HtS.out; omega, HB1.out⟩, rfl⟩, old_six (hwz.trans (oA.trans (o1.trans o3))) (by omega)⟩
                  · have Hnin : Hid (¬ hasN l0 q) := Lib.hid hin
                    have Hgood : Hid (GoodD (l0 ++ [rowD i k t])) := Lib.hid (HG.out.snoc he (by show nrm t.name ∉ _; rw [hq]; exact hin))
                    have Henc : Hid (dnE.enc (rowD i k t) = [.string t.name, .string q, .int .i64 i, .int .i64 k, .int .i64 t.kind, .int .i64 t.line]) := Lib.hid (by rw [← hq]; rfl)
                    clear hin hsz he hq
                    go_upto_region 21 with (first
                      | (go_at_call 21; refine (HN.out _).mono ?_; rintro e w1 ⟨rfl, o1⟩)
                      | (go_at_call 43; refine (RIndex_any _ l0 q w1 (HO.out.old o1).recs).mono ?_; rintro e w2 ⟨⟨kk, rfl, hkA, hkB⟩, rfl⟩; have hge := hkB.out Hnin.out; subst hge; clear hkA hkB))
                    have HO2 := Lib.hid (HO.out.old o1)
                    obtain ⟨i0, hi0, hz0, hz1, hz2⟩ := info_parts infoDn
                    go_wp2_with (at_builtin; go_loud (refine wpList_append_lies _ rfl _ _ 47 rfl wz.heap.size 84 i0 _ 6 64 Tryz.underlying47 hi0 hz0 hz1 hz2 rfl (by omega) _ l0.length (dnE.all l0) rfl (World.ownsRow.alloc HO2.out _) ⟨w1.heap.size, 0, none⟩ 1 1 (dnE.enc (rowD i k t)) rfl rfl (by rw [Henc.out]; exact World.news_of_block (cs := #[.string t.name, .string q, .int .i64 i, .int .i64 k, .int .i64 t.kind, .int .i64 t.line]) (t := 84) (fr := (0, 0)) (heap_alloc_new w1 _)) (dnE.one _) (by omega) (by have := Hlen.out; simp [maxLen]; omega) (by have := Hlen.out; omega) (by have := (oA.trans o1).size; simp; omega) (w1.heap.size + 1) (by simp [go_sem]) ?_); intro gg cp w3 hown3 hgrow hat3 hltg)
                    have hown4 : OwnS dnE 84 wz w3 (.slice (some ⟨gg, 0, none⟩) (l0.length + 1) cp) (l0 ++ [rowD i k t]) := by
                      unfold OwnS
                      rw [List.length_append, Enc.all_append, Enc.all_one]
                      exact hown3
                    have ho3 : Old wz w3 := ((oA.trans o1).alloc _).grown hgrow (fun b hb => (World.ownsRow.lt HO2.out b hb).1)
                    rw [← Hrow.out] at hown4
                    have hg3 := Hgood.out
                    rw [← Hrow.out] at hg3
                    have HO3 := Lib.hid hown4
                    have HG3 := Lib.hid hg3
                    clear hown3 hown4 hgrow hat3 hg3
                    go_roundw
                    case rel => exact ⟨k + 1, by go_num, by omega, HO3.out, HG3.out, ho3⟩
                    case measure => simp [intOf]; omega
                · have HE := Lib.hid he
                  have HB2 := Lib.hid (HErr.out _ (.inl ⟨he, rfl⟩))
                  have hne : ((normR t.name).2 != 0) = true := by simpa using he
                  have heq : ((normR t.name).2 == 0) = false := by simpa using he
                  clear he hsz
                  generalize normR t.name = q at *
                  obtain ⟨m1, m2⟩ := q
                  dsimp only at *
                  go_wp2_with (first
                      | (go_at_call 21; refine (HN.out _).mono ?_; rintro e w1 ⟨rfl, o1⟩)
                      | (go_at_call 42; refine (At_any _ _ _ 0 t.name _).mono ?_; rintro e w3 ⟨rfl, o3⟩; have q0 := HX.out.c0 _ (oA.trans (o1.trans o3)); have q1 := HX.out.c1 _ (oA.trans (o1.trans o3)); have q2 := HX.out.c2 _ (oA.trans (o1.trans o3)); have q3 := HX.out.c3 _ (oA.trans (o1.trans o3)); have q4 := HX.out.c4 _ (oA.trans (o1.trans o3)); have q5 := HX.out.c5 _ (oA.trans (o1.trans o3)); have qf := HX.out.fz _ (oA.trans (o1.trans o3)); simp only [fltC]))
                  (try simp only [Exit.inBlock, Exit.then])
                  refine bodyPost_ret (v := .tuple #[.slice none 0 0, .agg (fltC ⟨m2, i, t.line, 0, t.name⟩).toArray]) (by simp [results, Tryz.results23, go_sem, q0, q1, q2, q3, q4, q5, fltC]) rfl ⟨.inl ⟨_, .inr ⟨h64, by have := HtS.out; omega, HB2.out⟩, rfl⟩, old_six (hwz.trans (oA.trans (o1.trans o3))) (by omega)⟩
              · obtain rfl : k = T.length := by omega
                have hk1 : ¬ (T.length : Int) < T.length := by omega
                have hfl := flatD_succ HTi.out
                rw [← hfl] at hown hgood
                have hts := totD_succ HTi.out
                have HO := Lib.hid hown
                have HG := Lib.hid hgood
                clear hown hgood hfl hts
                go_wp2_with fail
                go_roundw
                case rel => exact ⟨i + 1, by go_num, by omega, HO.out, HG.out, ho⟩
                case measure => simp [intOf]; omega
          · obtain rfl : i = S.length := by omega
            have hi1 : ¬ (S.length : Int) < S.length := by omega
            have hres : ColD S (.ok (flatD S S.length)) := ⟨h64, by have := HtS.out; omega, rfl, hgood⟩
            have Hres := Lib.hid hres
            have HO := Lib.hid hown
            clear hown hgood hres
            have q0 := HX.out.c0 _ ho
            have q1 := HX.out.c1 _ ho
            have q2 := HX.out.c2 _ ho
            have q3 := HX.out.c3 _ ho
            have q4 := HX.out.c4 _ ho
            have q5 := HX.out.c5 _ ho
            have qf := HX.out.fz _ ho
            go_wp2_with fail
            (try simp only [Exit.inBlock, Exit.then])
            refine bodyPost_ret (v := .tuple #[_, .agg (fltC zeroF).toArray]) (by simp [results, Tryz.results23, go_sem, q0, q1, q2, q3, q4, q5, fltC, zeroF]) rfl ⟨.inr ⟨_, _, Hres.out, rfl, own_six HO.out hBz hwz.size⟩, old_six (hwz.trans ho) (by omega)⟩
theorem RCollect_any (v : Value) (S : List (List Tq)) (w : World) (hv : Sqs w v S) (hS : ∀ T ∈ S, T.length ≤ 140737488355328) :
    Calls Tryz.prog 23 #[v] w fun e w' => RetF w w' S e ∧ Old w w' := by
  by_cases h : 64 < S.length
  · exact (RCollect_many v S w hv h)
  · exact RCollect_few v S w hv (by omega) hS
end Go.Proofs.YtpifkinlaicliaaGreatDoor
