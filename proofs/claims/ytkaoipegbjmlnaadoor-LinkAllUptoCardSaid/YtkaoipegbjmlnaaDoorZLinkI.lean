/-
  LINK, I: a way.
-/
import Derived.Test.YtkaoipegbjmlnaaDoorZLinkH
import Derived.WalkMore
namespace Go.Proofs.YtkaoipegbjmlnaaDoor
open Go.RowKit
attribute [local go_sem] Old.refl Old.alloc Old.drew Old.setCell OldW.old

def nextOf (E : Int → Int → Bool) (n : Nat) (D : Int → Option Nat) (t : Int) (d : Nat) : Int := ((below n (E t)).find? fun y => decide (D y = some d)).getD 0
def wayL (E : Int → Int → Bool) (n : Nat) (D : Int → Option Nat) : Nat → Int → List Int
  | 0, _ => []
  | d + 1, t => nextOf E n D t d :: wayL E n D d (nextOf E n D t d)
theorem DistIs.back {E : Int → Int → Bool} {a c : Int} {d : Nat} (h : DistIs E a c (d + 1)) : ∃ b, DistIs E a b d ∧ E b c = true := by
  obtain ⟨hw, hm⟩ := h
  cases hw with
  | snoc h e =>
    rename_i b
    exact ⟨b, ⟨h, fun m hm2 => by have := hm (m + 1) (hm2.snoc e); omega⟩, e⟩
theorem DistIs.zero {E : Int → Int → Bool} {a c : Int} (h : DistIs E a c 0) : c = a := by
  obtain ⟨hw, _⟩ := h
  cases hw; rfl
theorem next_is {E : Int → Int → Bool} {n : Nat} {D : Int → Option Nat} {dst t : Int} {d : Nat} (hE : ∀ a b, E a b = true → (0 ≤ a ∧ a < n) ∧ 0 ≤ b ∧ b < n) (hD : ∀ x d, D x = some d ↔ DistIs (fun a b => E b a) dst x d) (h : D t = some (d + 1)) :
    (∃ y, y ∈ below n (E t) ∧ D y = some d) := by
  obtain ⟨b, hb, he⟩ := ((hD t (d + 1)).1 h).back
  exact ⟨b, below_mem.2 ⟨(hE t b he).2.1, (hE t b he).2.2, he⟩, (hD b d).2 hb⟩
theorem find_at {l : List Int} {p : Int → Bool} : ∀ {k : Nat}, k < l.length → (∀ i, i < k → p (ix l i) = false) → p (ix l k) = true → l.find? p = some (ix l k) := by
  induction l with
  | nil => intro k h; cases h
  | cons a l ih =>
    intro k hk h1 h2
    cases k with
    | zero =>
      rw [List.find?_cons_of_pos (by simpa [ix, List.getD] using h2)]; rfl
    | succ k =>
      have h0 := h1 0 (by omega)
      rw [List.find?_cons_of_neg (by have : p a = false := by simpa [ix, List.getD] using h0
                                     rw [this]; exact Bool.false_ne_true)]
      exact ih (k := k) (by simpa using hk) (fun i hi => by simpa [ix, List.getD] using h1 (i + 1) (by omega)) (by simpa [ix, List.getD] using h2)
theorem Recs.oneAt {α : Type} {c : Enc α} (w : World) (E : TypeId) (x : α) {b : Nat} (hb : w.heap.size = b) : Recs c (w.alloc (.cells (c.enc x).toArray E)) (.slice (some ⟨b, 0, none⟩) 1 1) [x] := by
  subst hb; exact Recs.one w E x
def backR (x : Rfr) : Rfr := ⟨x.t, x.f, 0, ⟨#[]⟩, 0, 0⟩
theorem edge_back (l : List Rfr) (tp a b : Int) : edge (l.map backR) tp a b = edge l tp b a := by
  unfold edge
  rw [List.any_map]
  congr 1
  funext x
  show (cntR (backR x) tp && (x.t == a && x.f == b)) = (cntR x tp && (x.f == b && x.t == a))
  have : cntR (backR x) tp = cntR x tp := by
    unfold cntR backR
    dsimp only
    cases decide (0 ≤ x.f) <;> cases decide (x.f < tp) <;> cases decide (0 ≤ x.t) <;> cases decide (x.t < tp) <;> rfl
  rw [this, Bool.and_comm (x.t == a)]
theorem distV_eq {o : Option Nat} {d : Nat} : (distV o = (d : Int)) ↔ o = some d := by
  cases o with
  | none => simp [distV]
  | some e =>
    simp only [distV, Option.some.injEq]
    omega
def RetW (w w' : World) (E : Int) (fr : Int) (Ed : Int → Int → Bool) (n : Nat) (dst : Int) (e : Ending) : Prop :=
  ∃ u c, e = .returned (.tuple #[u, .int .i64 c]) ∧ (E ≠ 0 → c = E ∧ OwnI 3 w w' u []) ∧
    (E = 0 → ∃ D : Int → Option Nat, (∀ x d, D x = some d ↔ DistIs (fun a b => Ed b a) dst x d) ∧ ((D fr = none ∧ c = 3 ∧ OwnI 3 w w' u []) ∨ ∃ d, D fr = some d ∧ c = 0 ∧ OwnI 3 w w' u (fr :: wayL Ed n D d fr)))
set_option maxRecDepth 100000 in
set_option maxHeartbeats 1600000 in
theorem Way_any (HR : Rises) (v : Value) (l : List Rfr) (tp s t : Int) (w : World) (hl : Recs rfE w v l) :
    Calls Tryd.prog 19 #[v, .int .i64 tp, .int .i64 s, .int .i64 t] w fun e w' => RetW w w' (asksE l.length tp [s, t]) s (edge l tp) tp.toNat t e ∧ Old w w' := by
  have Hl := Lib.hid hl
  obtain ⟨a, cap, b, off, rfl, hc1, hc2, ha, ht⟩ := hl
  have Ha := Lib.hid ha
  have Ht := Lib.hid ht
  have HC := Lib.hid (fun V (h : Ints V (.slice (some ⟨w.heap.size, 0, none⟩) 2 2) [s, t]) => check_any a l.length cap tp (.slice (some ⟨w.heap.size, 0, none⟩) 2 2) [s, t] V h)
  have HI : Hid (Ints (w.alloc (.cells #[.int .i64 s, .int .i64 t] 3)) (.slice (some ⟨w.heap.size, 0, none⟩) 2 2) [s, t]) := Ints.mk (l := [s, t]) (Nat.le_refl 2) (by decide) (fun i hi => by
    match i, hi with
    | 0, _ => simp [go_sem, ix]
    | 1, _ => simp [go_sem, ix])
  clear ha ht
  by_cases hE : asksE l.length tp [s, t] = 0
  · obtain ⟨hn, ht0, ht1, hs⟩ := asks_ok hE
    obtain ⟨n, rfl⟩ : ∃ n : Nat, tp = n := ⟨tp.toNat, by omega⟩
    obtain ⟨hs0, hs1⟩ := hs s (by simp)
    obtain ⟨hq0, hq1⟩ := hs t (by simp)
    obtain ⟨sn, rfl⟩ : ∃ sn : Nat, s = sn := ⟨s.toNat, by omega⟩
    obtain ⟨tn, rfl⟩ : ∃ tn : Nat, t = tn := ⟨t.toNat, by omega⟩
    rw [hE] at HC ⊢
    have HG := Lib.hid (fun V (o : Old w V) => graph_any HR _ l n V (Hl.out.old o) hn (by omega))
    have HGb := Lib.hid (fun V (x : Value) (h : Recs rfE V x (l.map backR)) => graph_any HR _ (l.map backR) n V h (by rw [List.length_map]; exact hn) (by omega))
    have HW := Lib.hid (fun G V W (h : Lists W G n V (edge (l.map backR) n)) => walk_any G n tn V (edge (l.map backR) n) W h (fun a b h => (edge_rng h).2) (by omega) (by omega))
    clear hE hs
    go_enter Tryd.func19, Tryd.ntmps19
    go_wp2_with fail
    go_step3
    go_wp2_with fail
    refine (HC.out _ HI.out).mono ?_
    rintro e w1 ⟨rfl, rfl⟩
    have o1 : Old w (w.alloc (.cells #[.int .i64 (sn : Int), .int .i64 (tn : Int)] 3)) := (Old.refl w).alloc _
    generalize w.alloc (.cells #[.int .i64 (sn : Int), .int .i64 (tn : Int)] 3) = w1 at *
    go_wp2_with fail
    go_loopw [11, 31] (fun x j wr => ∃ k : Nat, j = .int .i64 k ∧ k ≤ l.length ∧ OwnS rfE 43 w1 wr x ((l.take k).map backR) ∧ Old w1 wr) (fun _ j _ => l.length - (intOf j).toNat)
    case atStart => exact ⟨0, rfl, Nat.zero_le _, OwnS.nil _ _ _ _, Old.refl _⟩
    case round =>
      obtain ⟨k, rfl, hk, hown, ho⟩ := hrel
      have Hown := Lib.hid hown
      have o2 := o1.trans ho
      clear hown
      by_cases hlt : k < l.length
      · have hi : (k : Int) < l.length := by omega
        obtain rfl := Ha.out (by omega)
        obtain ⟨x, hx⟩ : ∃ x, l[k]? = some x := ⟨_, List.getElem?_eq_getElem hlt⟩
        have K := Recs.six Ht.out hx
        have k0 := (K wr o2).1
        have k1 := (K wr o2).2.1
        have k2 := (K wr o2).2.2.1
        have k3 := (K wr o2).2.2.2.1
        have k4 := (K wr o2).2.2.2.2.1
        have k5 := (K wr o2).2.2.2.2.2
        have Hsn := Lib.hid (show (l.take (k + 1)).map backR = (l.take k).map backR ++ [backR x] from by
          rw [List.take_succ_eq_append_getElem hlt, (List.getElem?_eq_some_iff.1 hx).2, List.map_append]; rfl)
        have hlen : ((l.take k).map backR).length = k := by rw [List.length_map, List.length_take]; omega
        clear K hx
        obtain ⟨xf, xt, xn, xs, xl, xc⟩ := x
        dsimp only at *
        generalize (l.take k).map backR = raw at *
        go_wp2_with (at_builtin; go_loud (refine wpList_append_recs (c := rfE) (w0 := w1) rfl _ _ 24 rfl 43 Tryd.underlying24 _ infoRf rfl (Nat.zero_lt_succ 5) _ raw [⟨xt, xf, 0, ⟨#[]⟩, 0, 0⟩] rfl (Hown.out.old (((Old.refl wr).alloc _).alloc _)) _ rfl (Recs.oneAt (c := rfE) _ 43 ⟨xt, xf, 0, ⟨#[]⟩, 0, 0⟩ (by simp [go_sem])) (by simp; omega) (by simp; omega) ((ho.alloc _).alloc _) ?_); intro v4 w4 hown4 ho4 _)
        go_roundw
        case rel => exact ⟨k + 1, by go_num, by omega, by rw [Hsn.out]; exact hown4, ho4⟩
        case measure => simp [intOf]; omega
      · obtain rfl : k = l.length := by omega
        rw [List.take_length] at Hown
        have hi : ¬ (l.length : Int) < l.length := by omega
        go_wp2_with fail
        refine (HGb.out _ _ Hown.out.recs).mono ?_
        rintro e w2 ⟨⟨G, V, rfl, hR⟩, o3⟩
        have HLs := Lib.hid hR.lists
        clear hR
        go_wp2_with fail
        refine (HW.out G V w2 HLs.out).mono ?_
        rintro e w3 ⟨⟨u, rfl, D, hD, hsay, hdn⟩, o4⟩
        have Hdn := Lib.hid hdn
        clear hdn
        obtain ⟨au, cu, rfl, _, _⟩ := ownsRow_form hD
        have o5 : Old w w3 := (o2.trans o3).trans o4
        have Hcell : Hid (∀ k, k < n → ∀ W, Old w3 W → ∃ g, au = some ⟨g, 0, none⟩ ∧ W.cell? ⟨g, k, none⟩ = some (.int .i64 (distV (D k)))) := fun k hk W o => by
          obtain ⟨g, rfl, _, _⟩ := OwnI.block hD (by rw [distL_len]; omega)
          have := o.cell (OwnI.cell hD (k := k) (by rw [distL_len]; exact hk))
          rw [distL_ix hk] at this
          exact ⟨g, rfl, this⟩
        have Hsay : Hid (∀ x d, D x = some d ↔ DistIs (fun a b => edge l n b a) tn x d) := fun x d => by
          rw [hsay x d, show edge (l.map backR) n = fun a b => edge l n b a from funext fun a => funext fun b => edge_back l n a b]
        rw [distL_len]
        clear hD hsay
        obtain ⟨g, rfl, c0⟩ := Hcell.out sn (by omega) w3 (Old.refl _)
        have Hc2 : Hid (∀ k, k < n → ∀ W, Old w3 W → W.cell? ⟨g, k, none⟩ = some (.int .i64 (distV (D k)))) := fun k hk W o => by
          obtain ⟨g', e1, e2⟩ := Hcell.out k hk W o
          injection e1 with e1
          injection e1 with e1
          rw [e1]; exact e2
        have hsz := o5.size
        cases hDs : D sn with
        | none =>
          rw [hDs] at c0
          change w3.cell? ⟨g, sn, none⟩ = some (.int .i64 (-1)) at c0
          have HDs := Lib.hid hDs
          clear hDs
          go_wp2_with fail
          rw [Exit.noGoto_ret]
          go_ret2
          exact ⟨⟨_, _, rfl, fun h => absurd rfl h, fun _ => ⟨D, Hsay.out, .inl ⟨HDs.out, rfl, OwnI.nil _ _ _⟩⟩⟩, o5⟩
        | some d0 =>
          rw [hDs] at c0
          have hge : ¬ (d0 : Int) < 0 := by omega
          change w3.cell? ⟨g, sn, none⟩ = some (.int .i64 (d0 : Int)) at c0
          have HDs := Lib.hid hDs
          clear hDs
          go_wp2_with fail
          refine (HG.out _ o5).mono ?_
          rintro e w6 ⟨⟨G2, V2, rfl, hR⟩, o6⟩
          have HL2 := Lib.hid hR.lists
          clear hR
          go_wp2_with fail
          go_step3
          go_wp2_with fail
          have hd0 := Hdn.out sn d0 HDs.out
          have o7 : Old w6 (w6.alloc (.cells #[.int .i64 (sn : Int)] 3)) := (Old.refl w6).alloc _
          have hown7 : OwnI 3 w6 (w6.alloc (.cells #[.int .i64 (sn : Int)] 3)) (.slice (some ⟨w6.heap.size, 0, none⟩) 1 1) [(sn : Int)] :=
            World.ownsRow_lit w6 #[.int .i64 (sn : Int)] 1 (Nat.le_refl _) (by decide) rfl
          have Hown7 := Lib.hid hown7
          clear hown7
          have o36 : Old w3 w6 := o6
          have hsz6 := (o5.trans o6).size
          have o56 := o5.trans o6
          go_loopg [16, 17] (d0 + 1) (fun c x tt wr => ∃ (d : Nat) (tc : Int) (pre : List Int), tt = .int .i64 tc ∧ c = d + 1 ∧ D tc = some d ∧ 0 ≤ tc ∧ tc < n ∧ OwnI 3 w6 wr x pre ∧ pre ++ wayL (edge l n) n D d tc = (sn : Int) :: wayL (edge l n) n D d0 sn ∧ pre.length + d = d0 + 1 ∧ Old w6 wr)
          case atStart => exact ⟨d0, sn, [(sn : Int)], rfl, rfl, HDs.out, by omega, by omega, Hown7.out, rfl, by simp; omega, o7⟩
          case round =>
            clear Hown7
            obtain ⟨d, tc, pre, rfl, hgk, hDt, htc0, htc1, hown, hpre, hlen, hor⟩ := hrel
            have HDt := Lib.hid hDt
            have Hpre := Lib.hid hpre
            obtain ⟨ax, cx, rfl, _, _⟩ := ownsRow_form hown
            have Hown := Lib.hid hown
            clear hDt hpre hown
            cases d with
            | zero =>
              have hz := ((Hsay.out tc 0).1 HDt.out).zero
              subst hz
              go_wp2_with fail
              rw [Exit.noGoto_ret]
              go_ret2
              exact ⟨⟨_, _, rfl, fun h => absurd rfl h, fun _ => ⟨D, Hsay.out, .inr ⟨d0, HDs.out, rfl, by
                have h := Hpre.out
                rw [show wayL (edge l n) n D 0 tn = [] from rfl, List.append_nil] at h
                rw [show (n : Int).toNat = n from rfl, ← h]
                exact Hown.out.lower hsz6⟩⟩⟩, o56.trans hor⟩
            | succ d =>
              obtain ⟨tcn, rfl⟩ : ∃ k : Nat, tc = k := ⟨tc.toNat, by omega⟩
              have hne : ¬ ((tcn : Int) = tn) := fun e => by
                have h1 := (Hsay.out tn 0).2 (DistIs.self _ _)
                rw [← e, HDt.out] at h1
                cases h1
              have hneb : ((tcn : Int) != tn) = true := by rw [bne_iff_ne]; exact hne
              have hnx := next_is (fun a b h => edge_rng h) Hsay.out HDt.out
              have cG := (HL2.out tcn (by omega)).1 wr hor
              have hI := (HL2.out tcn (by omega)).2
              obtain ⟨⟨ai, ni, ci⟩, hvi⟩ : ∃ x, V2 tcn = x := ⟨_, rfl⟩
              rw [hvi] at cG hI
              obtain ⟨a', cap', b', off', e', hc1', hc2', ha', ht'⟩ := hI
              injection e' with e1 e2 e3
              subst e1; subst e2; subst e3
              have HaG := Lib.hid ha'
              have HtG := Lib.hid ht'
              have Hnx := Lib.hid hnx
              have Hlen := Lib.hid hlen
              have Hgk := Lib.hid hgk
              have Hne := Lib.hid hne
              obtain ⟨d1, hd1, hd1b⟩ : ∃ d1 : Int, d1 = d ∧ 0 ≤ d1 := ⟨d, rfl, by omega⟩
              have hd1s : d1 ≤ 1000 := by have := Hdn.out tcn (d + 1) HDt.out; omega
              have ct2 : ∀ W, Old wr W → W.cell? ⟨g, tcn, none⟩ = some (.int .i64 (d1 + 1)) := fun W o => by
                have e2 := Hc2.out tcn (by omega) W ((o36.trans hor).trans o)
                rw [HDt.out] at e2
                rw [hd1]; exact e2
              have Hd1 := Lib.hid hd1
              clear hd1
              have hmem : Hid (∀ k, k < (below n (edge l n tcn)).length → 0 ≤ ix (below n (edge l n tcn)) k ∧ ix (below n (edge l n tcn)) k < n) := fun k hk => by
                have hm : ix (below n (edge l n tcn)) k ∈ below n (edge l n tcn) := by
                  unfold ix
                  rw [List.getD_eq_getElem?_getD, List.getElem?_eq_getElem hk]
                  exact List.getElem_mem hk
                exact ⟨(below_mem.1 hm).1, (below_mem.1 hm).2.1⟩
              have Hnxt : Hid (∀ k, k < (below n (edge l n tcn)).length → (∀ i, i < k → D (ix (below n (edge l n tcn)) i) ≠ some d) → D (ix (below n (edge l n tcn)) k) = some d → nextOf (edge l n) n D tcn d = ix (below n (edge l n tcn)) k) := fun k hk h1 h2 => by
                unfold nextOf
                rw [find_at hk (fun i hi => decide_eq_false (h1 i hi)) (decide_eq_true h2)]; rfl
              have Hdone : Hid (¬ ∀ i, i < (below n (edge l n tcn)).length → D (ix (below n (edge l n tcn)) i) ≠ some d) := fun h => by
                obtain ⟨y, hy, hyd⟩ := Hnx.out
                obtain ⟨i, hi, e⟩ := List.mem_iff_getElem.1 hy
                refine h i hi ?_
                rw [← hyd]
                congr 1
                unfold ix
                rw [List.getD_eq_getElem?_getD, List.getElem?_eq_getElem hi]
                exact e
              have Hpre2 : Hid (∀ y, nextOf (edge l n) n D tcn d = y → (pre ++ [y]) ++ wayL (edge l n) n D d y = (sn : Int) :: wayL (edge l n) n D d0 sn) := fun y hy => by
                rw [← Hpre.out, List.append_assoc]
                show pre ++ (y :: wayL (edge l n) n D d y) = pre ++ (nextOf (edge l n) n D tcn d :: wayL (edge l n) n D d (nextOf (edge l n) n D tcn d))
                rw [hy]
              clear ha' ht' hnx hlen hgk hne hvi Hpre
              unfold slv at cG
              generalize below n (edge l n tcn) = row at *
              go_wp2_with fail
              generalize wr = wo at *
              go_loopg [16, 17, 68] (row.length + 1) (fun c x tt j wx => x = .slice ax pre.length cx ∧ tt = .int .i64 tcn ∧ ∃ k : Nat, j = .int .i64 k ∧ k ≤ row.length ∧ c + k = row.length + 1 ∧ (∀ i, i < k → D (ix row i) ≠ some d) ∧ Old wo wx)
              case atStart => exact ⟨rfl, rfl, 0, rfl, Nat.zero_le _, by omega, fun i hi => absurd hi (Nat.not_lt_zero i), Old.refl _⟩
              case round =>
                obtain ⟨rfl, rfl, k, rfl, hk, hck, hno, how⟩ := hrel
                have Hno := Lib.hid hno
                have Hck := Lib.hid hck
                clear hno hck
                by_cases hlt : k < row.length
                · have hi : (k : Int) < row.length := by omega
                  obtain rfl := HaG.out (by omega)
                  have ck := HtG.out k hlt _ (hor.trans how)
                  obtain ⟨hy0, hy1⟩ := hmem.out k hlt
                  have Hnx1 := Lib.hid (Hnxt.out k hlt Hno.out)
                  have Hno1 : Hid (D (ix row k) ≠ some d → ∀ i, i < k + 1 → D (ix row i) ≠ some d) := fun h i hi => by
                    rcases Nat.lt_or_ge i k with h2 | h2
                    · exact Hno.out i h2
                    · obtain rfl : i = k := by omega
                      exact h
                  generalize ix row k = y at *
                  obtain ⟨yn, rfl⟩ : ∃ yn : Nat, y = yn := ⟨y.toNat, by omega⟩
                  have cy : ∀ W, Old wo W → W.cell? ⟨g, yn, none⟩ = some (.int .i64 (distV (D yn))) := fun W o => by
                    exact Hc2.out yn (by omega) W ((o36.trans hor).trans o)
                  have Heq : Hid (distV (D yn) = d ↔ D yn = some d) := distV_eq
                  generalize hyv : distV (D yn) = yv at *
                  clear hyv
                  have cy3 : ∀ W, Old wr W → W.cell? ⟨g, yn, none⟩ = some (.int .i64 yv) := fun W o => cy W (how.trans o)
                  have ct3 : ∀ W, Old wr W → W.cell? ⟨g, tcn, none⟩ = some (.int .i64 (d1 + 1)) := fun W o => ct2 W (how.trans o)
                  clear cy ct2
                  go_upto_region 20 with fail
                  refine wp_region_old (Old.refl _) (by kernel_rfl) (by kernel_rfl) ?_
                  repeat (go_big_quiet_step (fail))
                  refine wpQuiet_nil ?_
                  rintro ⟨wq, hwq⟩
                  dsimp only
                  by_cases e : yv = d1
                  · have hb : (yv == d1 + 1 - 1) = true := by rw [beq_iff_eq]; omega
                    have hb2 : (yv == d1) = true := by rw [beq_iff_eq]; exact e
                    have hDy := Lib.hid (Heq.out.1 (by rw [e, Hd1.out]))
                    have hny := Lib.hid (Hnx1.out hDy.out)
                    have hlen2 := Hlen.out
                    have oq := how.trans hwq
                    clear e
                    go_wp2_with (at_builtin; go_loud (refine wpList_append_ints (w0 := w6) rfl _ _ 59 rfl 3 Tryd.underlying59 infoInt _ pre [(yn : Int)] rfl ((Hown.out.old oq).alloc _) _ rfl (Ints.one _ _ (yn : Int)) (by simp; omega) ((hor.trans oq).alloc _) ?_); intro v5 w5 hown5 ho5 _)
                    go_roundg (d + 1)
                    case measure => have := Hgk.out; omega
                    case rel => exact ⟨d, yn, pre ++ [(yn : Int)], rfl, rfl, hDy.out, by omega, by omega, hown5, Hpre2.out _ hny.out, by simp; omega, ho5⟩
                  · have hb : (yv == d1 + 1 - 1) = false := by rw [beq_eq_false_iff_ne]; omega
                    have hb2 : (yv == d1) = false := by rw [beq_eq_false_iff_ne]; exact e
                    have hDy := Lib.hid (Hno1.out (fun h => e (by rw [Hd1.out]; exact Heq.out.2 h)))
                    have hck := Hck.out
                    clear e
                    go_wp2_with fail
                    go_roundg (gk - 1)
                    case measure => omega
                    case rel => exact ⟨rfl, rfl, k + 1, by go_num, by omega, by omega, hDy.out, how.trans hwq⟩
                · exact absurd (fun i hi => Hno.out i (by omega)) Hdone.out
  · have hb : (asksE l.length tp [s, t] != 0) = true := by rw [bne_iff_ne]; exact hE
    have Hne := Lib.hid hE
    generalize asksE l.length tp [s, t] = E at *
    clear hE
    go_enter Tryd.func19, Tryd.ntmps19
    go_wp2_with fail
    go_step3
    go_wp2_with fail
    refine (HC.out _ HI.out).mono ?_
    rintro e w1 ⟨rfl, rfl⟩
    go_wp2_with fail
    rw [Exit.noGoto_ret]
    go_ret2
    exact ⟨⟨_, _, rfl, fun _ => ⟨rfl, OwnI.nil _ _ _⟩, fun h => absurd h Hne.out⟩, (Old.refl w).alloc _⟩
end Go.Proofs.YtkaoipegbjmlnaaDoor
