/-
  LINK: the walk of LinkRefs.
-/
import Derived.Test.YtkaoipegbjmlnaaDoorZRefsQ
import Derived.Test.YtkaoipegbjmlnaaDoorZRefsT
import Derived.Test.YtkaoipegbjmlnaaDoorZLinkN
namespace Go.Proofs.YtkaoipegbjmlnaaDoor
open Go.RowKit
attribute [local go_sem] Old.refl Old.alloc Old.drew Old.setCell OldW.old

theorem addT_flatten (cut : Int) (S : List (List (List (List Pc)))) (ps : List Pc) : (addT cut S ps).flatten = S.flatten ++ [topOf ps] := by
  unfold addT
  rcases List.eq_nil_or_concat S with rfl | ⟨L0, Lx, rfl⟩
  · rfl
  · rw [List.concat_eq_append, List.getLast?_concat, List.dropLast_concat]
    dsimp only
    split
    · rw [List.flatten_append]; rfl
    · rw [List.flatten_append, List.flatten_append]
      simp
theorem grp_flatten (cut : Int) (T : List (List Pc)) : (grp cut T).flatten = T.map topOf := by
  have h : ∀ (T : List (List Pc)) S, (T.foldl (addT cut) S).flatten = S.flatten ++ T.map topOf := fun T => by
    induction T with
    | nil => intro S; simp
    | cons t T ih => intro S; rw [List.foldl_cons, ih, addT_flatten]; simp
  unfold grp
  rw [h]; rfl
theorem nT_flatten (S : List (List (List (List Pc)))) : nT S = S.flatten.length := by
  unfold nT
  rw [List.length_flatten]
theorem nS_flatten : ∀ S : List (List (List (List Pc))), nS S = (S.flatten.map nB).sum
  | [] => rfl
  | T :: S => by
    have := nS_flatten S
    unfold nS at this ⊢
    rw [List.map_cons, List.sum_cons, this, List.flatten_cons, List.map_append, List.sum_append]
    rfl
theorem sum_le {M : Nat} : ∀ {l : List Nat}, (∀ x ∈ l, x ≤ M) → l.sum ≤ l.length * M
  | [], _ => by simp
  | a :: l, h => by
    have h1 := h a (by simp)
    have h2 := sum_le (l := l) (fun x hx => h x (by simp [hx]))
    rw [List.sum_cons, List.length_cons, Nat.add_mul, Nat.one_mul]
    omega
theorem nB_top (ps : List Pc) : nB (topOf ps) = nP ps := by
  unfold nB topOf nP
  simp
theorem grp_small {cut : Int} {T : List (List Pc)} (hT : T.length ≤ 1048577) (hP : ∀ (i : Nat) (ps : List Pc), T[i]? = some ps → ps.length ≤ 1048577) :
    nT (grp cut T) = T.length ∧ nS (grp cut T) ≤ 4611686018427387904 ∧ ∀ X ∈ grp cut T, ∀ B ∈ X, ∀ P ∈ B, P.length ≤ 2199023255552 := by
  have hm : ∀ ps ∈ T, ps.length ≤ 1048577 := fun ps h => by
    obtain ⟨i, hi, e⟩ := List.mem_iff_getElem.1 h
    exact hP i ps (by rw [List.getElem?_eq_getElem hi, e])
  refine ⟨by rw [nT_flatten, grp_flatten, List.length_map], ?_, fun X hX B hB P hPB => ?_⟩
  · rw [nS_flatten, grp_flatten, List.map_map]
    have h := sum_le (M := 1048577) (l := T.map (nB ∘ topOf)) (fun x hx => by
      obtain ⟨ps, hps, rfl⟩ := List.mem_map.1 hx
      show nB (topOf ps) ≤ _
      rw [nB_top]
      unfold nP
      exact Nat.le_trans List.countP_le_length (hm ps hps))
    rw [List.length_map] at h
    have h2 : T.length * 1048577 ≤ 1048577 * 1048577 := Nat.mul_le_mul_right _ hT
    omega
  · have h : B ∈ (grp cut T).flatten := List.mem_flatten.2 ⟨X, hX, hB⟩
    rw [grp_flatten] at h
    obtain ⟨ps, hps, rfl⟩ := List.mem_map.1 h
    unfold topOf at hPB
    simp at hPB
    rcases hPB with rfl | rfl
    · simp
    · have := hm P hps; omega
theorem infoNm : (Tryd.prog.info? 45).map (fun i => (i.zero, i.size, i.bytes)) = some (some (.agg #[.string ⟨#[]⟩, .string ⟨#[]⟩, .int .i64 0, .int .i64 0, .int .i64 0, .int .i64 0]), 6, 64) := by kernel_rfl
set_option maxRecDepth 100000 in
set_option maxHeartbeats 3200000 in
theorem linkRefs_any (v vd : Value) (T : List (List Pc)) (cut : Int) (dir : List Nm) (w : World) (hTb : Tabs w) (hv : Topics w v T) (hd : Recs nmE w vd dir) (hT : T.length ≤ 1048577) (hP : ∀ (i : Nat) (ps : List Pc), T[i]? = some ps → ps.length ≤ 1048577)
    (hdl : dir.length * 64 ≤ 140737488355328) (hdn : ∀ d ∈ dir, d.norm.size ≤ 9223372036854775807) :
    Calls Tryd.prog 3 #[v, .int .i64 cut, vd] w fun e w' => e = .returned (.bool true) ∧ Old w w' := by
  obtain ⟨g1, g2, g3⟩ := grp_small (cut := cut) hT hP
  have HS := Lib.hid (fun V (o : Old w V) => sources_any v T cut V (hv.old o) hT hP)
  have HR := Lib.hid (fun s d V (o : Old w V) hs hd => Refs_any s (grp cut T) dir d V (hTb.old o) hs hd (by omega) g2 g3 (by omega) hdn)
  have HQ := Lib.hid (fun s V (o : Old w V) hs => RRefs_any s (grp cut T) dir vd V hs (hd.old o) (by omega) g2 g3)
  have Hd := Lib.hid hd
  obtain ⟨av, cv, rfl, _, _⟩ := hv.form
  obtain ⟨ad, cd, rfl, _, _⟩ := hd.form
  clear hv hd hTb hP hdn g1 g2 g3
  generalize refsR dir (grp cut T) = R at *
  generalize grp cut T = S at *
  go_enter Tryd.func3, Tryd.ntmps3
  go_wp2_with fail
  refine (HS.out _ (Old.refl _)).mono ?_
  rintro e w1 ⟨⟨s1, rfl, hs1⟩, o1⟩
  have Hs1 := Lib.hid hs1
  clear hs1
  go_wp2_with (at_builtin; go_loud (refine wpList_append_recs (c := nmE) (w0 := w1) rfl _ _ 23 rfl 45 Tryd.underlying23 _ infoNm rfl (Nat.zero_lt_succ 5) _ [] dir rfl (World.ownsRow_lit w1 #[] 0 (Nat.le_refl _) (by simp) rfl) _ rfl (Hd.out.old (o1.alloc _)) (by simp; omega) (by simpa using hdl) ((Old.refl w1).alloc _) ?_); intro d2 w2 hd2 ho2 hg2)
  have Hd2 := Lib.hid (show Recs nmE w2 d2 dir from hd2.recs)
  have o2 := o1.trans ho2
  have os2 := Hs1.out.old ho2
  clear hd2 hg2
  refine (HR.out s1 d2 w2 o2 os2 Hd2.out).mono ?_
  rintro e w3 ⟨hr3, o3⟩
  have o13 := o2.trans o3
  clear Hs1 os2 Hd2 o2 o3 ho2 o1
  have hF : ∃ u3 x3, e = .returned (.tuple #[u3, x3]) := by
    rcases hr3 with ⟨l, u, _, he, _⟩ | ⟨f, u, _, _, he, _⟩
    · exact ⟨_, _, he⟩
    · exact ⟨_, _, he⟩
  obtain ⟨u3, x3, rfl⟩ := hF
  have Hr3 := Lib.hid hr3
  clear hr3
  go_wp2_with fail
  refine (HS.out _ o13).mono ?_
  rintro e w4 ⟨⟨s4, rfl, hs4⟩, o4⟩
  have o14 := o13.trans o4
  have Hs4 := Lib.hid hs4
  clear hs4
  go_wp2_with fail
  refine (HQ.out s4 w4 o14 Hs4.out).mono ?_
  rintro e w5 ⟨hr5, o5⟩
  have o15 := o14.trans o5
  have o35 := o4.trans o5
  clear Hs4 o14 o4
  rcases hr5 with ⟨l, u5, hR, rfl, hu5⟩ | ⟨f, hR, rfl⟩
  · rcases Hr3.out with ⟨l3, u, hR3, he, hu⟩ | ⟨f, u, hR3, _, _⟩
    · rw [hR] at hR3
      obtain rfl : l = l3 := by injection hR3
      simp only [Ending.returned.injEq, Value.tuple.injEq, Array.mk.injEq, List.cons.injEq, and_true] at he
      obtain ⟨rfl, rfl⟩ := he
      have H5 := Lib.hid hu5.recs
      have H3 := Lib.hid hu.recs
      clear hu5 hu hR hR3 Hr3 HS HR HQ
      unfold wrgC noF
      go_wp2_with fail
      refine (refs_same _ _ l _ (H3.out.old (o35.alloc _)) (H5.out.old ((Old.refl _).alloc _))).mono ?_
      rintro e w6 ⟨rfl, o6⟩
      have c0 := o6.cell (p := ⟨w5.heap.size, 0, none⟩) (v := .int .i64 0) (by simp [go_sem])
      have c1 := o6.cell (p := ⟨w5.heap.size, 1, none⟩) (v := .int .i64 0) (by simp [go_sem])
      have c2 := o6.cell (p := ⟨w5.heap.size, 2, none⟩) (v := .int .i64 0) (by simp [go_sem])
      have c3 := o6.cell (p := ⟨w5.heap.size, 3, none⟩) (v := .int .i64 0) (by simp [go_sem])
      have c4 := o6.cell (p := ⟨w5.heap.size, 4, none⟩) (v := .string ⟨#[]⟩) (by simp [go_sem])
      go_wp2_with fail
      refine (told8_nil _).mono ?_
      rintro e w7 ⟨rfl, o7⟩
      go_wp2_with fail
      refine (awake_any _).mono ?_
      rintro e w8 ⟨rfl, o8⟩
      go_wp2_with fail
      go_ret
      exact ⟨rfl, ((o15.alloc _).trans o6).trans (o7.trans o8)⟩
    · rw [hR] at hR3; cases hR3
  · rcases Hr3.out with ⟨l3, u, hR3, _, _⟩ | ⟨f3, u, hR3, hfc, he, hu⟩
    · rw [hR] at hR3; cases hR3
    · rw [hR] at hR3
      obtain rfl : f = f3 := by injection hR3
      simp only [Ending.returned.injEq, Value.tuple.injEq, Array.mk.injEq, List.cons.injEq, and_true] at he
      obtain ⟨rfl, rfl⟩ := he
      have H3 := Lib.hid hu
      clear hu hR hR3 Hr3 HS HR HQ
      unfold wrgC
      go_wp2_with fail
      refine (refs_same _ _ [] _ (Recs.nil _ _) (Recs.nil _ _)).mono ?_
      rintro e w6 ⟨rfl, o6⟩
      have c0 := o6.cell (p := ⟨w5.heap.size, 0, none⟩) (v := .int .i64 f.code) (by simp [go_sem])
      have c1 := o6.cell (p := ⟨w5.heap.size, 1, none⟩) (v := .int .i64 f.src) (by simp [go_sem])
      have c2 := o6.cell (p := ⟨w5.heap.size, 2, none⟩) (v := .int .i64 f.line) (by simp [go_sem])
      have c3 := o6.cell (p := ⟨w5.heap.size, 3, none⟩) (v := .int .i64 f.col) (by simp [go_sem])
      have c4 := o6.cell (p := ⟨w5.heap.size, 4, none⟩) (v := .string f.word) (by simp [go_sem])
      go_wp2_with fail
      refine (told8_err (f := f) (H3.out.old ((o35.alloc _).trans o6)) hfc).mono ?_
      rintro e w7 ⟨rfl, o7⟩
      go_wp2_with fail
      refine (awake_any _).mono ?_
      rintro e w8 ⟨rfl, o8⟩
      go_wp2_with fail
      go_ret
      exact ⟨rfl, ((o15.alloc _).trans o6).trans (o7.trans o8)⟩
theorem linkRefs_row_walk (W : World) (hT : Tabs W) (T : List (List Pc)) (v : Value) (g : Topics W v T) (y : T.length ≤ 1048576) (u : ∀ (i : Nat) (ps : List Pc), T[i]? = some ps → ps.length ≤ 1048576) (cut : Int) (_ : -9223372036854775808 ≤ cut ∧ cut ≤ 9223372036854775807)
    (dir : List Nm) (vd : Value) (gd : Recs nmE W vd dir) (yd : dir.length ≤ 1048576) (ud : ∀ d ∈ dir, d.norm.size ≤ 9223372036854775807) :
    Calls Tryd.prog 3 #[v, .int .i64 cut, vd] W fun e w' => e = .returned (.bool true) ∧ Old W w' :=
  linkRefs_any v vd T cut dir W hT g gd (by omega) (fun i ps h => by have := u i ps h; omega) (by omega) ud
end Go.Proofs.YtkaoipegbjmlnaaDoor
