/-
  LINK: the walk of LinkAsks.
-/
import Derived.Test.YtkaoipegbjmlnaaLinkX
import Derived.Test.YtkaoipegbjmlnaaLinkWaysWalk
namespace Go.Proofs.Ytkaoipegbjmlnaa
open Go.RowKit
attribute [local go_sem] Old.refl Old.alloc Old.drew Old.setCell OldW.old

open Classical in
theorem reach_same {E : Int → Int → Bool} {n : Nat} {D : Int → Option Nat} {s : Int} (hD : ∀ x d, D x = some d ↔ DistIs E s x d) : below n (fun x => (D x).isSome) = reachL E n s := by
  unfold reachL
  congr 1
  funext y
  rw [Bool.eq_iff_iff, decide_eq_true_iff, Option.isSome_iff_exists]
  constructor
  · rintro ⟨d, h⟩; exact ⟨d, ((hD y d).1 h).1⟩
  · rintro ⟨m, h⟩
    obtain ⟨d, hd⟩ := h.dist
    exact ⟨d, (hD y d).2 hd⟩
theorem RetD.list {w w' : World} {E : Int} {n : Nat} {Ed : Int → Int → Bool} {s : Int} {e : Ending} (h : RetD w w' E n Ed s e) : RetL w w' E (reachL Ed n s) e := by
  obtain ⟨u, rfl, h0, h1⟩ := h
  refine ⟨u, rfl, ?_⟩
  by_cases hE : E = 0
  · rw [if_pos hE]
    obtain ⟨D, ho, hD⟩ := h0 hE
    rw [← reach_same hD]; exact ho
  · rw [if_neg hE]; exact h1 hE
theorem dist_same {E : Int → Int → Bool} {D D' : Int → Option Nat} {t : Int} (h : ∀ x d, D x = some d ↔ DistIs E t x d) (h' : ∀ x d, D' x = some d ↔ DistIs E t x d) : D = D' := by
  funext x
  apply Option.ext
  intro d
  rw [h, h']
theorem RetW.same {w w' v v' : World} {E s t : Int} {Ed : Int → Int → Bool} {n : Nat} {e e' : Ending} (h : RetW w w' E s Ed n t e) (h' : RetW v v' E s Ed n t e') :
    ∃ u u' c L, e = .returned (.tuple #[u, .int .i64 c]) ∧ e' = .returned (.tuple #[u', .int .i64 c]) ∧ OwnI 3 w w' u L ∧ OwnI 3 v v' u' L := by
  obtain ⟨u, c, rfl, h1, h2⟩ := h
  obtain ⟨u', c', rfl, h1', h2'⟩ := h'
  by_cases hE : E = 0
  · obtain ⟨D, hD, h⟩ := h2 hE
    obtain ⟨D', hD', h'⟩ := h2' hE
    obtain rfl := dist_same hD hD'
    rcases h with ⟨a, rfl, b⟩ | ⟨d, a, rfl, b⟩
    · rcases h' with ⟨a', rfl, b'⟩ | ⟨d', a', rfl, b'⟩
      · exact ⟨u, u', 3, [], rfl, rfl, b, b'⟩
      · rw [a] at a'; cases a'
    · rcases h' with ⟨a', rfl, b'⟩ | ⟨d', a', rfl, b'⟩
      · rw [a] at a'; cases a'
      · rw [a] at a'
        obtain rfl := Option.some.inj a'
        exact ⟨u, u', 0, _, rfl, rfl, b, b'⟩
  · obtain ⟨rfl, b⟩ := h1 hE
    obtain ⟨rfl, b'⟩ := h1' hE
    exact ⟨u, u', _, [], rfl, rfl, b, b'⟩
set_option maxRecDepth 100000 in
set_option maxHeartbeats 1600000 in
theorem linkAsks_any (v : Value) (l : List Rfr) (tp s t : Int) (w : World) (hl : Recs rfE w v l) (hz : l.length * 56 ≤ 140737488355328) :
    Calls Try.prog 4 #[v, .int .i64 tp, .int .i64 s, .int .i64 t] w fun e w' => e = .returned (.bool true) ∧ Old w w' := by
  have Hl := Lib.hid hl
  clear hl
  have HT := Lib.hid (fun V (o : Old w V) => twin_any v l V (Hl.out.old o) hz)
  have HO := Lib.hid (fun V u (h : Recs rfE V u l) => Out_any rises u l tp s V h)
  have HI := Lib.hid (fun V u (h : Recs rfE V u l) => Into_any rises u l tp s V h)
  have HL := Lib.hid (fun V u (h : Recs rfE V u l) => Orphans_any u l tp V h)
  have HR := Lib.hid (fun V u (h : Recs rfE V u l) => (Reach_any rises u l tp s V h).mono fun e w' h => And.intro h.1.list h.2)
  have HW := Lib.hid (fun V u (h : Recs rfE V u l) => Way_any rises u l tp s t V h)
  have KO := Lib.hid (fun V (o : Old w V) => ROut_any v l tp s V (Hl.out.old o))
  have KI := Lib.hid (fun V (o : Old w V) => RInto_any v l tp s V (Hl.out.old o))
  have KL := Lib.hid (fun V (o : Old w V) => ROrphans_any v l tp V (Hl.out.old o))
  have KR := Lib.hid (fun V (o : Old w V) => RReach_any v l tp s V (Hl.out.old o))
  have KW := Lib.hid (fun V (o : Old w V) => RWay_any v l tp s t V (Hl.out.old o))
  have HS : Hid (∀ V L u u' a b c d, OwnI 3 a b u L → OwnI 3 c d u' L → Old b V → Old d V → Calls Try.prog 13 #[u, u'] V fun e w' => e = .returned (.bool true) ∧ Old V w') := fun V L u u' a b c d h h' o o' => by
    have h2 := ints_any u u' L L V (h.ints.old o) (h'.ints.old o')
    rw [decide_eq_true rfl] at h2
    exact h2
  generalize asksE l.length tp [s, t] = E2 at *
  generalize asksE l.length tp [s] = E1 at *
  generalize asksE l.length tp [] = E0 at *
  generalize outOf l tp s = LO at *
  generalize intoOf l tp s = LI at *
  generalize loneOf l tp = LL at *
  generalize reachL (edge l tp) tp.toNat s = LR at *
  generalize edge l tp = Ed at *
  generalize tp.toNat = n at *
  clear Hl hz
  go_enter Try.func4, Try.ntmps4
  go_wp2_with fail
  refine (HT.out _ (Old.refl _)).mono ?_
  rintro e w1 ⟨⟨u1, rfl, hu1⟩, o1⟩
  have r1 := hu1.recs
  have p1 := o1
  clear hu1 o1
  go_wp2_with fail
  refine (HO.out _ _ r1).mono ?_
  rintro e w2 ⟨⟨u2, rfl, h2⟩, o2⟩
  have p2 := p1.trans o2
  clear r1 p1 o2
  go_wp2_with fail
  refine (KO.out _ p2).mono ?_
  rintro e w3 ⟨⟨u3, rfl, h3⟩, o3⟩
  have p3 := p2.trans o3
  have HB := Lib.hid (HS.out w3 _ _ _ _ _ _ _ h2 h3 o3 (Old.refl _))
  clear h2 h3 p2 o3
  go_wp2_with fail
  refine HB.out.mono ?_
  rintro e w4 ⟨rfl, o4⟩
  have p := p3.trans o4
  clear p3 o4 HB
  go_wp2_with fail
  refine (awake_any _).mono ?_
  rintro e w5 ⟨rfl, o5⟩
  replace p := p.trans o5
  clear o5
  go_wp2_with fail
  refine (HT.out _ p).mono ?_
  rintro e w1 ⟨⟨u1, rfl, hu1⟩, o1⟩
  have r1 := hu1.recs
  have p1 := p.trans o1
  clear hu1 o1 p
  go_wp2_with fail
  refine (HI.out _ _ r1).mono ?_
  rintro e w2 ⟨⟨u2, rfl, h2⟩, o2⟩
  have p2 := p1.trans o2
  clear r1 p1 o2
  go_wp2_with fail
  refine (KI.out _ p2).mono ?_
  rintro e w3 ⟨⟨u3, rfl, h3⟩, o3⟩
  have p3 := p2.trans o3
  have HB := Lib.hid (HS.out w3 _ _ _ _ _ _ _ h2 h3 o3 (Old.refl _))
  clear h2 h3 p2 o3
  go_wp2_with fail
  refine HB.out.mono ?_
  rintro e w4 ⟨rfl, o4⟩
  have p := p3.trans o4
  clear p3 o4 HB
  go_wp2_with fail
  refine (HT.out _ p).mono ?_
  rintro e w1 ⟨⟨u1, rfl, hu1⟩, o1⟩
  have r1 := hu1.recs
  have p1 := p.trans o1
  clear hu1 o1 p
  go_wp2_with fail
  refine (HL.out _ _ r1).mono ?_
  rintro e w2 ⟨⟨u2, rfl, h2⟩, o2⟩
  have p2 := p1.trans o2
  clear r1 p1 o2
  go_wp2_with fail
  refine (KL.out _ p2).mono ?_
  rintro e w3 ⟨⟨u3, rfl, h3⟩, o3⟩
  have p3 := p2.trans o3
  have HB := Lib.hid (HS.out w3 _ _ _ _ _ _ _ h2 h3 o3 (Old.refl _))
  clear h2 h3 p2 o3
  go_wp2_with fail
  refine HB.out.mono ?_
  rintro e w4 ⟨rfl, o4⟩
  have p := p3.trans o4
  clear p3 o4 HB
  go_wp2_with fail
  refine (HT.out _ p).mono ?_
  rintro e w1 ⟨⟨u1, rfl, hu1⟩, o1⟩
  have r1 := hu1.recs
  have p1 := p.trans o1
  clear hu1 o1 p
  go_wp2_with fail
  refine (HR.out _ _ r1).mono ?_
  rintro e w2 ⟨⟨u2, rfl, h2⟩, o2⟩
  have p2 := p1.trans o2
  clear r1 p1 o2
  go_wp2_with fail
  refine (KR.out _ p2).mono ?_
  rintro e w3 ⟨⟨u3, rfl, h3⟩, o3⟩
  have p3 := p2.trans o3
  have HB := Lib.hid (HS.out w3 _ _ _ _ _ _ _ h2 h3 o3 (Old.refl _))
  clear h2 h3 p2 o3
  go_wp2_with fail
  refine HB.out.mono ?_
  rintro e w4 ⟨rfl, o4⟩
  have p := p3.trans o4
  clear p3 o4 HB
  go_wp2_with fail
  refine (HT.out _ p).mono ?_
  rintro e w1 ⟨⟨u1, rfl, hu1⟩, o1⟩
  have r1 := hu1.recs
  have p1 := p.trans o1
  clear hu1 o1 p
  go_wp2_with fail
  refine (HW.out _ _ r1).mono ?_
  rintro e w2 ⟨h2, o2⟩
  have p2 := p1.trans o2
  clear r1 p1 o2
  have h2' := h2
  obtain ⟨u2, c2, rfl, _⟩ := h2'
  go_wp2_with fail
  refine (KW.out _ p2).mono ?_
  rintro e w3 ⟨h3, o3⟩
  obtain ⟨u2', u3, c, L, e1, rfl, hA, hB⟩ := h2.same h3
  clear h2 h3
  simp only [Ending.returned.injEq, Value.tuple.injEq, Array.mk.injEq, List.cons.injEq, Value.int.injEq, true_and, and_true] at e1
  obtain ⟨rfl, rfl⟩ := e1
  have p3 := p2.trans o3
  have HB := Lib.hid (HS.out w3 _ _ _ _ _ _ _ hA hB o3 (Old.refl _))
  clear hA hB p2 o3
  go_wp2_with fail
  refine HB.out.mono ?_
  rintro e w4 ⟨rfl, o4⟩
  have p := p3.trans o4
  clear p3 o4 HB
  go_wp2_with fail
  go_ret
  exact ⟨rfl, p⟩
theorem linkAsks_row_walk (W : World) (l : List Rfr) (v : Value) (g : Recs rfE W v l) (z : l.length * 56 ≤ 140737488351232) (tp : Int) (_ : -9223372036854775808 ≤ tp ∧ tp ≤ 9223372036854775807)
    (s : Int) (_ : -9223372036854775808 ≤ s ∧ s ≤ 9223372036854775807) (t : Int) (_ : -9223372036854775808 ≤ t ∧ t ≤ 9223372036854775807) :
    Calls Try.prog 4 #[v, .int .i64 tp, .int .i64 s, .int .i64 t] W fun e w' => e = .returned (.bool true) ∧ Old W w' := linkAsks_any v l tp s t W g (by omega)
end Go.Proofs.Ytkaoipegbjmlnaa
