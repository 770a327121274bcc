/-
  KEYWORD, RR: the document's Reach.
-/
import Derived.Test.YtohngjkedhpikaaGreatDoorZKwRt
import Derived.Test.YtohngjkedhpikaaGreatDoorZKwQ
import Derived.Test.YtohngjkedhpikaaGreatDoorZKwR
import Derived.Test.YtohngjkedhpikaaGreatDoorZTextDigits
import Derived.Deep.LoopGhost
import Derived.BigQuiet
namespace Go.Proofs.YtohngjkedhpikaaGreatDoor
open Go.RowKit Go.Maps
attribute [local go_sem] Old.refl Old.alloc Old.drew Old.setCell OldW.old

theorem ownsR_lt {w : World} {base e size n : Nat} {v : Value} {xs : List Value} (h : w.ownsRow base e size v n xs) {g : Nat} (hg : v.ownBlock = some g) : g < w.heap.size := (World.ownsRow.lt h g hg).2
section
variable {E : TypeId} {w0 w : World} {g n cap : Nat} {t : List ByteArray}
theorem tx_cell (h : OwnS txE E w0 w (.slice (some ⟨g, 0, none⟩) n cap) t) {i : Nat} {x : ByteArray} (hx : t[i]? = some x) : w.cell? ⟨g, i, none⟩ = some (.string x) := by
  have := h.cell (j := 0) hx rfl
  rwa [show i * txE.k + 0 = i from by show i * 1 + 0 = i; omega] at this
theorem tx_stored (h : OwnS txE E w0 w (.slice (some ⟨g, 0, none⟩) n cap) t) {i : Nat} {x : ByteArray} (y : ByteArray) (hx : t[i]? = some x) : OwnS txE E w0 (w.setCell ⟨g, i, none⟩ (.string y)) (.slice (some ⟨g, 0, none⟩) n cap) (t.set i y) := by
  have := h.stored (i := i) (j := 0) (x' := y) (u := .string y) hx (by decide) rfl
  rwa [show i * txE.k + 0 = i from by show i * 1 + 0 = i; omega] at this
end
/-- what was found, what is to be looked at, the marks -/
structure RSt (w wx : World) (mb : Nat) (o q : Value) (n : Nat) (F : ByteArray → Option Value) (O Q : List ByteArray) : Prop where
  old : Old w wx
  out : OwnS txE 9 w wx o O
  que : OwnS txE 9 w wx q Q
  mp : MapV Tryz.prog 9 Value.string wx mb n F
  ap : ∀ g, o.ownBlock = some g → q.ownBlock ≠ some g
  ob : o.ownBlock ≠ some mb
  qb : q.ownBlock ≠ some mb
  m0 : w.heap.size ≤ mb
variable {w wx W Z : World} {mb n : Nat} {o q : Value} {F : ByteArray → Option Value} {O Q : List ByteArray}
theorem RSt.after (h : RSt w wx mb o q n F O Q) (k : Old wx W) : RSt w W mb o q n F O Q := ⟨h.old.trans k, h.out.old k, h.que.old k, h.mp.old k, h.ap, h.ob, h.qb, h.m0⟩
theorem RSt.mark (h : RSt w wx mb o q n F O Q) (hg : wx.grownBy W (some mb)) {F' : ByteArray → Option Value} (hm : MapV Tryz.prog 9 Value.string W mb (n + 1) F') : RSt w W mb o q (n + 1) F' O Q :=
  ⟨h.old.grown hg fun _ e => Option.some.inj e ▸ h.m0, h.out.kept hg (.inr h.ob), h.que.kept hg (.inr h.qb), hm, h.ap, h.ob, h.qb, h.m0⟩
theorem RSt.putO (h : RSt w wx mb o q n F O Q) (oZ : Old wx Z) (hg : Z.grownBy W o.ownBlock) {g m cap : Nat} {O' : List ByteArray} (hown : OwnS txE 9 w W (.slice (some ⟨g, 0, none⟩) m cap) O') (hat : o.ownBlock = some g ∨ g = Z.heap.size) :
    RSt w W mb (.slice (some ⟨g, 0, none⟩) m cap) q n F O' Q := by
  have hZ := h.after oZ
  have hqn : ∀ j, q.ownBlock = some j → j < Z.heap.size := fun j hj => ownsR_lt hZ.que hj
  refine ⟨hZ.old.grown hg fun k e => (World.ownsRow.lt h.out k e).1, hown, hZ.que.kept hg ?_, hZ.mp.kept hg fun e => h.ob e.symm, fun j hj e => ?_, fun e => ?_, h.qb, h.m0⟩
  · cases hq : q.ownBlock with
    | none => exact .inl rfl
    | some j => exact .inr fun e => h.ap j e.symm hq
  · obtain rfl : g = j := Option.some.inj hj
    rcases hat with h1 | h1
    · exact h.ap g h1 e
    · have := hqn g e; omega
  · obtain rfl : g = mb := Option.some.inj e
    rcases hat with h1 | h1
    · exact h.ob h1
    · have := hZ.mp.lt; omega
theorem RSt.putQ (h : RSt w wx mb o q n F O Q) (oZ : Old wx Z) (hg : Z.grownBy W q.ownBlock) {g m cap : Nat} {Q' : List ByteArray} (hown : OwnS txE 9 w W (.slice (some ⟨g, 0, none⟩) m cap) Q') (hat : q.ownBlock = some g ∨ g = Z.heap.size) :
    RSt w W mb o (.slice (some ⟨g, 0, none⟩) m cap) n F O Q' := by
  have hZ := h.after oZ
  have hon : ∀ j, o.ownBlock = some j → j < Z.heap.size := fun j hj => ownsR_lt hZ.out hj
  refine ⟨hZ.old.grown hg fun k e => (World.ownsRow.lt h.que k e).1, hZ.out.kept hg ?_, hown, hZ.mp.kept hg fun e => h.qb e.symm, fun j hj e => ?_, h.ob, fun e => ?_, h.m0⟩
  · cases ho : o.ownBlock with
    | none => exact .inl rfl
    | some j => exact .inr fun e => h.ap j ho e.symm
  · obtain rfl : g = j := Option.some.inj e
    rcases hat with h1 | h1
    · exact h.ap g hj h1
    · have := hon g hj; omega
  · obtain rfl : g = mb := Option.some.inj e
    rcases hat with h1 | h1
    · exact h.qb h1
    · have := hZ.mp.lt; omega
theorem OwnS.fresh {α : Type} {c : Enc α} {E : TypeId} {w0 w : World} (x : α) (hb : w0.heap.size ≤ w.heap.size) : OwnS c E w0 (w.alloc (.cells (c.enc x).toArray E)) (.slice (some ⟨w.heap.size, 0, none⟩) 1 1) [x] := by
  have hl := c.len x
  refine ⟨by rw [Enc.all_length], .inr ⟨w.heap.size, 1, (c.enc x).toArray, rfl, hb, heap_alloc_new w _, Nat.le_refl _, by simp [maxLen], by simp [hl], ?_⟩⟩
  rw [Enc.all_one]
  simp [← hl]
theorem RSt.made (w : World) (f : ByteArray) : RSt w ((w.alloc (.map #[] 0)).alloc (.cells #[.string f] 9)) w.heap.size (.slice none 0 0) (.slice (some ⟨w.heap.size + 1, 0, none⟩) 1 1) 0 (markV []) [] [f] := by
  have hs : (w.alloc (.map #[] 0)).heap.size = w.heap.size + 1 := by simp
  have hq := OwnS.fresh (c := txE) (E := 9) (w0 := w) (w := w.alloc (.map #[] 0)) f (by omega)
  rw [hs] at hq
  refine ⟨((Old.refl w).alloc _).alloc _, OwnS.nil _ _ _ _, hq, ?_, fun g e => by simp [Value.ownBlock] at e, by simp [Value.ownBlock], fun e => ?_, Nat.le_refl _⟩
  · have := (MapV.made Tryz.prog 9 Value.string w).old ((Old.refl _).alloc (.cells #[.string f] 9))
    rw [show markV [] = fun _ => none from by funext q; exact markV_out (by simp)]
    exact this
  · have : w.heap.size + 1 = w.heap.size := Option.some.inj e
    omega
set_option maxRecDepth 100000 in
set_option maxHeartbeats 6400000 in
theorem RReach_any (v : Value) (l : List En) (a : ByteArray) (w : World) (hv : Ents w v l) (hU : (l.flatMap En.sees).length ≤ 1000000)
    (hsz : ∀ e ∈ l, e.term.size ≤ 4194304 ∧ (foldS e.term).size ≤ 4194304 ∧ ∀ x ∈ e.sees, x.size ≤ 4194304 ∧ (foldS x).size ≤ 4194304) :
    Calls Tryz.prog 68 #[v, .string a] w fun e w' => (∃ u O, e = .returned u ∧ IsReach (edgeL l) a O ∧ OwnS txE 9 w w' u O) ∧ Old w w' := by
  obtain ⟨sa, cap, rfl, hc1, hc2⟩ := Seqs.form hv
  obtain ⟨b, off, hea, heat⟩ := Ents.open hv
  have Hea := Lib.hid hea
  have Heat := Lib.hid heat
  have Hsz := Lib.hid hsz
  obtain ⟨U, hUe⟩ : ∃ U, (l.flatMap En.sees).map foldS = U := ⟨_, rfl⟩
  have hUl : U.length ≤ 1000000 := by rw [← hUe, List.length_map]; omega
  have HU : Hid (∀ x y, edgeL l x y → y ∈ U) := Lib.hid fun x y ⟨e, he, _, _, s, hs, hy⟩ => by
    rw [← hUe]
    exact List.mem_map.2 ⟨s, List.mem_flatMap.2 ⟨e, he, hs⟩, hy⟩
  have Hed : Hid (∀ (k : Nat) (e : En) (s x : ByteArray), l[k]? = some e → e.sub = noB → foldS e.term = x → s ∈ e.sees → edgeL l x (foldS s)) := Lib.hid fun k e s x he h1 h2 hs => ⟨e, List.mem_of_getElem? he, h1, h2, s, hs, rfl⟩
  have Hno : Hid (∀ (x : ByteArray) (O : List ByteArray), (∀ (k : Nat) (e : En) (s : ByteArray), k < l.length → l[k]? = some e → e.sub = noB → foldS e.term = x → s ∈ e.sees → foldS s ∈ O) → ∀ y, edgeL l x y → y ∈ O) := Lib.hid fun x O h y ⟨e, he, h1, h2, s, hs, hy⟩ => by
    obtain ⟨k, hk⟩ := List.getElem?_of_mem he
    exact hy ▸ h k e s (List.getElem?_eq_some_iff.1 hk).1 hk h1 h2 hs
  have HS0 := Lib.hid (RSt.made w a)
  have Hes : Hid (∀ (x : ByteArray), x ∈ U → x.size ≤ 4194304) := Lib.hid fun x hx => by
    rw [← hUe] at hx
    obtain ⟨s, hs, rfl⟩ := List.mem_map.1 hx
    obtain ⟨e, he, hs⟩ := List.mem_flatMap.1 hs
    exact ((hsz e he).2.2 s hs).2
  have hmm := @run_makeMap Tryz.prog
  generalize edgeL l = E at *
  clear hv hea heat hsz hU hUe
  go_enter Tryz.func68, Tryz.ntmps68
  go_upto_region 5 with fail
  generalize (w.alloc (.map #[] 0)).alloc (.cells #[.string a] 9) = w0 at *
  have hm0 : w.heap.size < w.heap.size + 1 := by omega
  generalize w.heap.size + 1 = qb0 at *
  generalize w.heap.size = mb at *
  clear hmm
  go_loopg [5, 7, 8] (U.length + 2) (fun c o q iv wr => ∃ (O : List ByteArray) (i : Nat), iv = .int .i64 i ∧ RSt w wr mb o q O.length (markV O) O (a :: O) ∧ BfR E a O i ∧ U.length + 2 - i ≤ c)
  case atStart => exact ⟨[], 0, rfl, HS0.out, BfR.init, Nat.le_refl _⟩
  case round =>
    clear HS0
    obtain ⟨O, i, rfl, hS, hB, hc⟩ := hrel
    have HS := Lib.hid hS
    have HB := Lib.hid hB
    have hOU := hB.bound HU.out
    have hile := hB.le
    obtain ⟨aq, cq, rfl, hq1, hq2⟩ := hS.que.form
    obtain ⟨ao, co, rfl, ho1, ho2⟩ := hS.out.form
    have hql : (a :: O).length = O.length + 1 := rfl
    rw [hql] at HS hq1 ⊢
    clear hS hB
    by_cases hlt : i < O.length + 1
    · have hi1 : (i : Int) < ((O.length + 1 : Nat) : Int) := by omega
      obtain ⟨x, hx⟩ : ∃ x, (a :: O)[i]? = some x := ⟨_, List.getElem?_eq_getElem (by rw [hql]; exact hlt)⟩
      have Hx := Lib.hid hx
      have HSx : Hid (RSt w wr mb (.slice ao O.length co) (.slice aq (O.length + 1) cq) O.length (markV O) O (a :: O)) := HS
      clear hx
      go_upto_region 8 with fail
      go_loopw [5, 7, 25] (fun o q jv wx => ∃ (O : List ByteArray) (j : Nat), jv = .int .i64 j ∧ j ≤ l.length ∧ RSt w wx mb o q O.length (markV O) O (a :: O) ∧ BfR E a O i ∧ (a :: O)[i]? = some x ∧ ∀ (k : Nat) (e : En) (s : ByteArray), k < j → l[k]? = some e → e.sub = noB → foldS e.term = x → s ∈ e.sees → foldS s ∈ O) (fun _ _ jv _ => l.length - (intOf jv).toNat)
      case atStart => exact ⟨O, 0, rfl, Nat.zero_le _, HSx.out, HB.out, Hx.out, fun k e s hk => absurd hk (Nat.not_lt_zero k)⟩
      case round =>
        clear HS HSx HB Hx hOU hile hq1 hq2 ho1 ho2 hql hi1 hlt
        obtain ⟨O, j, rfl, hj, hS, hB, hx, hall⟩ := hrel
        have HS := Lib.hid hS
        have HB := Lib.hid hB
        have Hx := Lib.hid hx
        have Hall := Lib.hid hall
        have ho := Lib.hid hS.old
        have hOU := hB.bound HU.out
        have hile := hB.le
        obtain ⟨aq, cq, rfl, hq1, hq2⟩ := hS.que.form
        obtain ⟨ao, co, rfl, ho1, ho2⟩ := hS.out.form
        have hil : i < O.length + 1 := by have := (List.getElem?_eq_some_iff.1 hx).1; rwa [List.length_cons] at this
        have hil1 : (i : Int) < (O.length : Int) + 1 := by omega
        obtain ⟨gq, rfl, hgq1, hgq2⟩ := hS.que.block (by rw [List.length_cons]; omega)
        have qc := later (tx_cell hS.que hx)
        clear hS hB hx hall
        by_cases hlt : j < l.length
        · have hj1 : (j : Int) < l.length := by omega
          obtain ⟨e, he⟩ : ∃ e, l[j]? = some e := ⟨_, List.getElem?_eq_getElem hlt⟩
          obtain ⟨a2, c2, a3, c3, hcs, _, hts⟩ := Heat.out j e he
          obtain rfl := Hea.out (by omega)
          have c0 : ∀ V, Old wr V → V.cell? ⟨b, off + j * 4, none⟩ = some (.string e.term) := fun V o => (hcs V (ho.out.trans o)).1
          have c1 : ∀ V, Old wr V → V.cell? ⟨b, off + j * 4 + 1, none⟩ = some (.string e.sub) := fun V o => (hcs V (ho.out.trans o)).2.1
          have c2' : ∀ V, Old wr V → V.cell? ⟨b, off + j * 4 + 2, none⟩ = some (.slice a2 e.topics.length c2) := fun V o => (hcs V (ho.out.trans o)).2.2.1
          have c3' : ∀ V, Old wr V → V.cell? ⟨b, off + j * 4 + 3, none⟩ = some (.slice a3 e.sees.length c3) := fun V o => (hcs V (ho.out.trans o)).2.2.2
          obtain ⟨hz1, _, hz3⟩ := Hsz.out e (List.mem_of_getElem? he)
          have Hz3 := Lib.hid hz3
          have Hts := Lib.hid hts
          have hsl : e.sees.length ≤ 9223372036854775807 := by
            obtain ⟨_, _, _, h1, h2⟩ := hts.form
            omega
          have HF := Lib.hid (fun V => RFold_any e.term V hz1)
          have Hskip : Hid (¬ (e.sub = noB ∧ foldS e.term = x) → ∀ (k : Nat) (e' : En) (s : ByteArray), k < j + 1 → l[k]? = some e' → e'.sub = noB → foldS e'.term = x → s ∈ e'.sees → foldS s ∈ O) := Lib.hid fun h k e' s hk he' h1 h2 hs => by
            rcases Nat.lt_or_ge k j with h3 | h3
            · exact Hall.out k e' s h3 he' h1 h2 hs
            · obtain rfl : k = j := by omega
              obtain rfl := Option.some.inj (he.symm.trans he')
              exact absurd ⟨h1, h2⟩ h
          have Hedj : Hid (e.sub = noB → foldS e.term = x → ∀ s ∈ e.sees, E x (foldS s)) := Lib.hid fun h1 h2 s hs => Hed.out j e s x he h1 h2 hs
          have Hfull : Hid (∀ O' : List ByteArray, (∀ (k : Nat) (e : En) (s : ByteArray), k < j → l[k]? = some e → e.sub = noB → foldS e.term = x → s ∈ e.sees → foldS s ∈ O') → (∀ s ∈ e.sees, foldS s ∈ O') → ∀ (k : Nat) (e' : En) (s : ByteArray), k < j + 1 → l[k]? = some e' → e'.sub = noB → foldS e'.term = x → s ∈ e'.sees → foldS s ∈ O') := Lib.hid fun O' h1 h2 k e' s hk he' h3 h4 hs => by
            rcases Nat.lt_or_ge k j with h5 | h5
            · exact h1 k e' s h5 he' h3 h4 hs
            · obtain rfl : k = j := by omega
              obtain rfl := Option.some.inj (he.symm.trans he')
              exact h2 s hs
          clear hcs hts he hz3
          generalize hft : foldS e.term = t at *
          go_upto_region 10 with fail
          have oa : Old wr (wr.alloc (.cells #[.string e.term, .string e.sub, .slice a2 e.topics.length c2, .slice a3 e.sees.length c3] 45)) := (Old.refl wr).alloc _
          have d0 := later (show (wr.alloc (.cells #[.string e.term, .string e.sub, .slice a2 e.topics.length c2, .slice a3 e.sees.length c3] 45)).cell? ⟨wr.heap.size, 0, none⟩ = some (.string e.term) by simp [go_sem])
          have d1 := later (show (wr.alloc (.cells #[.string e.term, .string e.sub, .slice a2 e.topics.length c2, .slice a3 e.sees.length c3] 45)).cell? ⟨wr.heap.size, 1, none⟩ = some (.string e.sub) by simp [go_sem])
          have d3 := later (show (wr.alloc (.cells #[.string e.term, .string e.sub, .slice a2 e.topics.length c2, .slice a3 e.sees.length c3] 45)).cell? ⟨wr.heap.size, 3, none⟩ = some (.slice a3 e.sees.length c3) by simp [go_sem])
          have HSa := Lib.hid (HS.out.after oa)
          have qd := fun V (o : Old (wr.alloc (.cells #[.string e.term, .string e.sub, .slice a2 e.topics.length c2, .slice a3 e.sees.length c3] 45)) V) => qc V (oa.trans o)
          generalize wr.alloc (.cells #[.string e.term, .string e.sub, .slice a2 e.topics.length c2, .slice a3 e.sees.length c3] 45) = wB at *
          generalize wr.heap.size = g9 at *
          clear c0 c1 c2' c3' qc oa HS ho
          by_cases hsub : e.sub = noB
          · have hsb : e.sub = ⟨#[]⟩ := hsub
            rw [hsb] at d1
            by_cases ht : t = x
            · have htb := str_bnn ht
              have htq := str_eqt ht
              have Hedx := Lib.hid (Hedj.out hsub ht)
              clear Hedj Hskip
              refine wp_region_old (Old.refl _) (by kernel_rfl) (by kernel_rfl) ?_
              repeat (go_big_quiet_step (with_reducible exact Calls.in_old (HF.out _)))
              refine wpQuiet_nil ?_
              rintro ⟨wq, hq⟩
              dsimp only
              have HSq := Lib.hid (HSa.out.after hq)
              have d3q := fun V (o : Old wq V) => d3 V (hq.trans o)
              obtain ⟨bt, ot, hat3, htx⟩ := Hts.out.at1
              have Hat3 := Lib.hid hat3
              have Htx := Lib.hid htx
              clear d0 d1 d3 qd HSa hat3 htx
              go_upto_region 12 with fail
              go_loopw [5, 7, 45] (fun o q mv wx => ∃ (O : List ByteArray) (m : Nat), mv = .int .i64 m ∧ m ≤ e.sees.length ∧ RSt w wx mb o q O.length (markV O) O (a :: O) ∧ BfR E a O i ∧ (a :: O)[i]? = some x ∧ (∀ (k : Nat) (e : En) (s : ByteArray), k < j → l[k]? = some e → e.sub = noB → foldS e.term = x → s ∈ e.sees → foldS s ∈ O) ∧ ∀ (k : Nat) (s : ByteArray), k < m → e.sees[k]? = some s → foldS s ∈ O) (fun _ _ mv _ => e.sees.length - (intOf mv).toNat)
              case atStart => exact ⟨O, 0, rfl, Nat.zero_le _, HSq.out, HB.out, Hx.out, Hall.out, fun k s hk => absurd hk (Nat.not_lt_zero k)⟩
              case round =>
                clear d3q HSq HB Hx Hall hOU hile hq1 hq2 ho1 ho2 hil hil1 hgq1 hgq2 hq htb htq
                obtain ⟨O, m, rfl, hm, hS, hB, hx, hall, hdone⟩ := hrel
                have HS := Lib.hid hS
                have HB := Lib.hid hB
                have Hx := Lib.hid hx
                have Hall := Lib.hid hall
                have Hdone := Lib.hid hdone
                have ho := Lib.hid hS.old
                have hOU := hB.bound HU.out
                obtain ⟨aq, cq, rfl, hq1, hq2⟩ := hS.que.form
                obtain ⟨ao, co, rfl, ho1, ho2⟩ := hS.out.form
                have hil : i < O.length + 1 := by have := (List.getElem?_eq_some_iff.1 hx).1; rwa [List.length_cons] at this
                clear hS hB hx hall hdone
                by_cases hlt3 : m < e.sees.length
                · have hm1 : (m : Int) < e.sees.length := by omega
                  obtain ⟨s, hs⟩ : ∃ s, e.sees[m]? = some s := ⟨_, List.getElem?_eq_getElem hlt3⟩
                  have hsm := List.mem_of_getElem? hs
                  obtain ⟨hs1, hs2⟩ := Hz3.out s hsm
                  obtain rfl := Hat3.out (by omega)
                  have ck := Htx.out m s hs wr ho.out
                  have HFs := Lib.hid (RFold_any s wr hs1)
                  have hEs := Hedx.out s hsm
                  have Hnx : Hid (∀ O' : List ByteArray, (∀ z, z ∈ O → z ∈ O') → foldS s ∈ O' → ∀ (k : Nat) (z : ByteArray), k < m + 1 → e.sees[k]? = some z → foldS z ∈ O') := Lib.hid fun O' h1 h2 k z hk hz => by
                    rcases Nat.lt_or_ge k m with h | h
                    · exact h1 _ (Hdone.out k z h hz)
                    · obtain rfl : k = m := by omega
                      obtain rfl := Option.some.inj (hs.symm.trans hz)
                      exact h2
                  clear hs hsm
                  generalize foldS s = y at *
                  have hky := Lib.hid (keyK (s := y) (by omega))
                  by_cases hin : y ∈ O
                  · have Hin := Lib.hid hin
                    have Hmk := Lib.hid (markV_in hin)
                    clear hin hEs
                    go_wp2_with (first
                      | (go_at_call 12; (with_reducible refine HFs.out.mono ?_); rintro e' w4 ⟨rfl, o4⟩; have HS4 := Lib.hid (HS.out.after o4))
                      | (refine wpList_lookup_mv rfl _ _ _ rfl 9 3 (string_keyed Tryz.underlying9) Value.string Tryz.underlying54 (.int .i64 0) zeroIntK mb _ _ rfl HS4.out.mp y _ rfl hky.out _ Hmk.out ?_; rw [show (some (Value.int .i64 1)).getD (.int .i64 0) = .int .i64 1 from rfl]))
                    go_roundw
                    case rel => exact ⟨O, m + 1, by go_num, by omega, HS4.out, HB.out, Hx.out, Hall.out, Hnx.out O (fun _ h => h) Hin.out⟩
                    case measure => simp [intOf]; omega
                  · have HB1 := Lib.hid (HB.out.put (List.mem_of_getElem? Hx.out) hEs hin)
                    have Hmk := Lib.hid (markV_out hin)
                    have Hmk1 := Lib.hid (markV_snoc O y)
                    clear hin hEs
                    go_wp2_with (first
                      | (go_at_call 12; (with_reducible refine HFs.out.mono ?_); rintro e' w4 ⟨rfl, o4⟩; have HS4 := Lib.hid (HS.out.after o4))
                      | (refine wpList_lookup_mv rfl _ _ _ rfl 9 3 (string_keyed Tryz.underlying9) Value.string Tryz.underlying54 (.int .i64 0) zeroIntK mb _ _ rfl HS4.out.mp y _ rfl hky.out _ Hmk.out ?_; rw [show (none : Option Value).getD (.int .i64 0) = .int .i64 0 from rfl])
                      | (refine wpList_update_mv rfl _ _ _ _ rfl 9 3 (string_keyed Tryz.underlying9) Value.string (fun _ _ => str_kv) Tryz.underlying54 mb _ _ rfl HS4.out.mp (by omega) y _ rfl hky.out (.int .i64 1) rfl ?_; intro w5 hM5 hg5; rw [← Hmk1.out] at hM5; have HS5 := Lib.hid (HS4.out.mark hg5 hM5); clear hM5 hg5)
                      | (at_builtin; go_loud (refine wpList_append_at (c := txE) (w0 := w) rfl _ _ 43 rfl 9 Tryz.underlying43 (.string ⟨#[]⟩) infoStrK rfl (Nat.zero_lt_succ 0) (.slice ao O.length co) O [y] rfl (HS5.out.out.old ((Old.refl w5).alloc _)) _ rfl (Recs.oneAt (c := txE) w5 9 y rfl) (Nat.zero_lt_succ 0) (by simp; omega) (by simp; omega) (by have := HS5.out.old.size; simp; omega) ?_); intro g6 cp6 w6 hown6 hg6 hat6 hlt6; have HS6 := Lib.hid (HS5.out.putO ((Old.refl w5).alloc _) hg6 hown6 hat6); clear hown6 hg6 hat6 hlt6)
                      | (at_builtin; go_loud (refine wpList_append_at (c := txE) (w0 := w) rfl _ _ 43 rfl 9 Tryz.underlying43 (.string ⟨#[]⟩) infoStrK rfl (Nat.zero_lt_succ 0) (.slice aq (a :: O).length cq) (a :: O) [y] rfl (HS6.out.que.old ((Old.refl w6).alloc _)) _ rfl (Recs.oneAt (c := txE) w6 9 y rfl) (Nat.zero_lt_succ 0) (by simp; omega) (by simp; omega) (by have := HS6.out.old.size; simp; omega) ?_); intro g7 cp7 w7 hown7 hg7 hat7 hlt7; have HS7 := Lib.hid (HS6.out.putQ ((Old.refl w6).alloc _) hg7 hown7 hat7); clear hown7 hg7 hat7 hlt7))
                    go_roundw
                    case rel => exact ⟨O ++ [y], m + 1, by go_num, by omega, by rw [List.length_append]; exact HS7.out, HB1.out, by rw [← List.cons_append, List.getElem?_append_left (by rw [List.length_cons]; omega)]; exact Hx.out, fun k e s h1 h2 h3 h4 h5 => List.mem_append_left _ (Hall.out k e s h1 h2 h3 h4 h5), Hnx.out _ (fun z h => List.mem_append_left _ h) (by simp)⟩
                    case measure => simp [intOf]; omega
                · obtain rfl : m = e.sees.length := by omega
                  have hm1 : ¬ (e.sees.length : Int) < e.sees.length := by omega
                  go_wp2_with fail
                  go_roundw
                  case rel =>
                    refine ⟨_, _, _, _, _, _, ⟨O, j + 1, ?_, by omega, HS.out, HB.out, Hx.out, Hfull.out O Hall.out fun s hs => ?_⟩, rfl, rfl, rfl, rfl, rfl, rfl⟩
                    · go_num
                    · obtain ⟨k, hk⟩ := List.getElem?_of_mem hs
                      exact Hdone.out k s (List.getElem?_eq_some_iff.1 hk).1 hk
                  case measure => simp [intOf]; omega
            · have htb := str_bne ht
              have htq := str_eqf ht
              have Hsk := Lib.hid (Hskip.out fun h => ht h.2)
              clear Hedj Hskip Hfull ht
              refine wp_region_old (Old.refl _) (by kernel_rfl) (by kernel_rfl) ?_
              repeat (go_big_quiet_step (with_reducible exact Calls.in_old (HF.out _)))
              refine wpQuiet_nil ?_
              rintro ⟨wq, hq⟩
              dsimp only
              go_wp2_with fail
              go_roundw
              case rel => exact ⟨O, j + 1, by go_num, by omega, HSa.out.after hq, HB.out, Hx.out, Hsk.out⟩
              case measure => simp [intOf]; omega
          · have hn := str_nilK hsub
            have Hsk := Lib.hid (Hskip.out fun h => hsub h.1)
            clear Hedj Hskip Hfull hsub
            refine wp_region_old (Old.refl _) (by kernel_rfl) (by kernel_rfl) ?_
            repeat (go_big_quiet_step (fail))
            refine wpQuiet_nil ?_
            rintro ⟨wq, hq⟩
            dsimp only
            go_wp2_with fail
            go_roundw
            case rel => exact ⟨O, j + 1, by go_num, by omega, HSa.out.after hq, HB.out, Hx.out, Hsk.out⟩
            case measure => simp [intOf]; omega
        · obtain rfl : j = l.length := by omega
          have hj1 : ¬ (l.length : Int) < l.length := by omega
          have HB1 := Lib.hid (HB.out.next Hx.out (Hno.out x O Hall.out))
          go_wp2_with fail
          go_roundg (gk - 1)
          case measure => omega
          case rel => exact ⟨O, i + 1, by go_num, HS.out, HB1.out, by omega⟩
    · have hi1 : ¬ (i : Int) < ((O.length + 1 : Nat) : Int) := by omega
      have hR := Lib.hid (HB.out.all (by omega))
      go_wp2_with fail
      go_ret
      exact ⟨⟨_, rfl, _, hR.out, HS.out.out⟩, HS.out.old⟩
end Go.Proofs.YtohngjkedhpikaaGreatDoor
