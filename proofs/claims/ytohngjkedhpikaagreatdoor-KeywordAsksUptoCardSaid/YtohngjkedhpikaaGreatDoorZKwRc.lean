/-
  KEYWORD, QO: the document's ordered.
-/
import Derived.Test.YtohngjkedhpikaaGreatDoorZKwS
import Derived.Test.YtohngjkedhpikaaGreatDoorZKwAl
import Derived.BigQuiet
import Derived.Test.YtohngjkedhpikaaGreatDoorZKwTw
import Derived.Test.YtohngjkedhpikaaGreatDoorZKwQ
import Derived.Test.YtohngjkedhpikaaGreatDoorZKwR
import Derived.Test.YtohngjkedhpikaaGreatDoorZTextDigits
import Derived.Deep.LoopGhost
import Derived.Test.YtohngjkedhpikaaGreatDoorZKwCp
import Derived.Test.YtohngjkedhpikaaGreatDoorZKwN
namespace Go.Proofs.YtohngjkedhpikaaGreatDoor
open Go.RowKit
attribute [local go_sem] Old.refl Old.alloc Old.drew Old.setCell OldW.old

set_option maxRecDepth 100000 in
set_option maxHeartbeats 1600000 in
theorem ROrdered_any (v : Value) (l : List ByteArray) (w : World) (hv : Txts w v l) (hs : ∀ s ∈ l, s.size ≤ 4194304 ∧ (foldS s).size ≤ 4194304) :
    Calls Tryz.prog 108 #[v] w fun e w' => RetBK e (ordK l) ∧ Old w w' := by
  obtain ⟨a, cap, rfl, hc1, hc2⟩ := hv.form
  obtain ⟨b, off, ha, hat⟩ := hv.at1
  have Ha := Lib.hid ha
  have Hat := Lib.hid hat
  have Hs := Lib.hid hs
  clear hv ha hat hs
  go_enter Tryz.func108, Tryz.ntmps108
  go_wp2_with fail
  go_loopw [3] (fun j wr => ∃ (k : Nat), j = .int .i64 ((k : Int) + 1) ∧ (k ≤ l.length) ∧ (∀ (i : Nat) (x y : ByteArray), i < k → l[i]? = some x → l[i + 1]? = some y → cmpS x y < 0) ∧ Old w wr) (fun j _ => l.length + 1 - (intOf j).toNat)
  case atStart => exact ⟨0, rfl, Nat.zero_le _, fun i x y hi => absurd hi (Nat.not_lt_zero i), Old.refl _⟩
  case round =>
    obtain ⟨k, rfl, hk, hno, ho⟩ := hrel
    have Hno := Lib.hid hno
    clear hno
    by_cases hlt : k + 1 < l.length
    · have hi : (k : Int) + 1 < l.length := by omega
      obtain ⟨x, hx⟩ : ∃ x, l[k]? = some x := ⟨_, List.getElem?_eq_getElem (by omega)⟩
      obtain ⟨y, hy⟩ : ∃ y, l[k + 1]? = some y := ⟨_, List.getElem?_eq_getElem hlt⟩
      obtain rfl := Ha.out (by omega)
      have c0 := fun V (o : Old wr V) => Hat.out k x hx V (ho.trans o)
      have c1 := fun V (o : Old wr V) => Hat.out (k + 1) y hy V (ho.trans o)
      obtain ⟨s1, s2⟩ := Hs.out x (List.mem_of_getElem? hx)
      obtain ⟨s3, s4⟩ := Hs.out y (List.mem_of_getElem? hy)
      have F1 := Lib.hid (fun V => RFold_any x V s1)
      have F2 := Lib.hid (fun V => RFold_any y V s3)
      have HC := Lib.hid (fun V => RCompare_any (foldS x) (foldS y) V s2 s4)
      have hw1 : IntKind.i64.wrap (k : Int) = k := IntWalk.i64_in _ (by omega)
      have hw2 : IntKind.i64.wrap ((k : Int) + 1 - 1) = k := by rw [show (k : Int) + 1 - 1 = k from by omega]; exact hw1
      have hn0 : (0 : Int) ≤ k := by omega
      have hn1 : (k : Int) < l.length := by omega
      have hn2 : (0 : Int) ≤ (k : Int) + 1 := by omega
      have Hb : Hid (¬ compareT (foldS x) (foldS y) < 0 → ¬ ordK l) := Lib.hid fun h hr => h (hr k x y hx hy)
      have Hg : Hid (compareT (foldS x) (foldS y) < 0 → ∀ (i : Nat) (u z : ByteArray), i < k + 1 → l[i]? = some u → l[i + 1]? = some z → cmpS u z < 0) := Lib.hid fun h i u z hi hu hz => by
        rcases Nat.lt_or_ge i k with h2 | h2
        · exact Hno.out i u z h2 hu hz
        · obtain rfl : i = k := by omega
          obtain rfl := Option.some.inj (hx.symm.trans hu)
          obtain rfl := Option.some.inj (hy.symm.trans hz)
          exact h
      clear hx hy
      generalize compareT (foldS x) (foldS y) = c at *
      by_cases hcz : c < 0
      · have hcn : ¬ (0 ≤ c) := by omega
        have Hgood := Lib.hid (Hg.out hcz)
        clear Hb Hg
        go_upto_region 4 with fail
        refine wp_region_old (Old.refl _) (by kernel_rfl) (by kernel_rfl) ?_
        repeat (go_big_quiet_step (first | with_reducible exact Calls.in_old (F1.out _) | with_reducible exact Calls.in_old (F2.out _) | with_reducible exact Calls.in_old (HC.out _) | fail))
        refine wpQuiet_nil ?_
        rintro ⟨wq, hwq⟩
        dsimp only
        go_wp2_with fail
        go_roundw
        case rel => exact ⟨k + 1, by go_num, by omega, Hgood.out, ho.trans hwq⟩
        case measure => simp [intOf]; omega
      · have hcn : 0 ≤ c := by omega
        have Hbad := Lib.hid (Hb.out hcz)
        clear Hb Hg hcz
        go_upto_region 4 with fail
        refine wp_region_old (Old.refl _) (by kernel_rfl) (by kernel_rfl) ?_
        repeat (go_big_quiet_step (first | with_reducible exact Calls.in_old (F1.out _) | with_reducible exact Calls.in_old (F2.out _) | with_reducible exact Calls.in_old (HC.out _) | fail))
        refine wpQuiet_nil ?_
        rintro ⟨wq, hwq⟩
        dsimp only
        go_wp2_with fail
        go_ret
        exact ⟨⟨false, rfl, by constructor
                               · intro h; cases h
                               · intro h; exact absurd h Hbad.out⟩, ho.trans hwq⟩
    · have hi : ¬ (k : Int) + 1 < l.length := by omega
      have Hall : Hid (ordK l) := Lib.hid fun i x y hx hy => Hno.out i x y (by have := (List.getElem?_eq_some_iff.1 hy).1; omega) hx hy
      go_wp2_with fail
      go_ret
      exact ⟨⟨true, rfl, by simpa using Hall.out⟩, ho⟩
end Go.Proofs.YtohngjkedhpikaaGreatDoor
/-
  KEYWORD, RR: the document's Reach.
-/
namespace Go.Proofs.YtohngjkedhpikaaGreatDoor
open Go.RowKit Go.Maps
attribute [local go_sem] Old.refl Old.alloc Old.drew Old.setCell OldW.old

theorem ownsR_lt {w : World} {base e size n : Nat} {v : Value} {xs : List Value} (h : w.ownsRow base e size v n xs) {g : Nat} (hg : v.ownBlock = some g) : g < w.heap.size := (World.ownsRow.lt h g hg).2
section
variable {E : TypeId} {w0 w : World} {g n cap : Nat} {t : List ByteArray}
theorem tx_cell (h : OwnS txE E w0 w (.slice (some ⟨g, 0, none⟩) n cap) t) {i : Nat} {x : ByteArray} (hx : t[i]? = some x) : w.cell? ⟨g, i, none⟩ = some (.string x) := by
  have := h.cell (j := 0) hx rfl
  rwa [show i * txE.k + 0 = i from by show i * 1 + 0 = i; omega] at this
theorem tx_stored (h : OwnS txE E w0 w (.slice (some ⟨g, 0, none⟩) n cap) t) {i : Nat} {x : ByteArray} (y : ByteArray) (hx : t[i]? = some x) : OwnS txE E w0 (w.setCell ⟨g, i, none⟩ (.string y)) (.slice (some ⟨g, 0, none⟩) n cap) (t.set i y) := by
  have := h.stored (i := i) (j := 0) (x' := y) (u := .string y) hx (by decide) rfl
  rwa [show i * txE.k + 0 = i from by show i * 1 + 0 = i; omega] at this
end
/-- what was found, what is to be looked at, the marks -/
structure RSt (w wx : World) (mb : Nat) (o q : Value) (n : Nat) (F : ByteArray → Option Value) (O Q : List ByteArray) : Prop where
  old : Old w wx
  out : OwnS txE 9 w wx o O
  que : OwnS txE 9 w wx q Q
  mp : MapV Tryz.prog 9 Value.string wx mb n F
  ap : ∀ g, o.ownBlock = some g → q.ownBlock ≠ some g
  ob : o.ownBlock ≠ some mb
  qb : q.ownBlock ≠ some mb
  m0 : w.heap.size ≤ mb
variable {w wx W Z : World} {mb n : Nat} {o q : Value} {F : ByteArray → Option Value} {O Q : List ByteArray}
theorem RSt.after (h : RSt w wx mb o q n F O Q) (k : Old wx W) : RSt w W mb o q n F O Q := ⟨h.old.trans k, h.out.old k, h.que.old k, h.mp.old k, h.ap, h.ob, h.qb, h.m0⟩
theorem RSt.mark (h : RSt w wx mb o q n F O Q) (hg : wx.grownBy W (some mb)) {F' : ByteArray → Option Value} (hm : MapV Tryz.prog 9 Value.string W mb (n + 1) F') : RSt w W mb o q (n + 1) F' O Q :=
  ⟨h.old.grown hg fun _ e => Option.some.inj e ▸ h.m0, h.out.kept hg (.inr h.ob), h.que.kept hg (.inr h.qb), hm, h.ap, h.ob, h.qb, h.m0⟩
theorem RSt.putO (h : RSt w wx mb o q n F O Q) (oZ : Old wx Z) (hg : Z.grownBy W o.ownBlock) {g m cap : Nat} {O' : List ByteArray} (hown : OwnS txE 9 w W (.slice (some ⟨g, 0, none⟩) m cap) O') (hat : o.ownBlock = some g ∨ g = Z.heap.size) :
    RSt w W mb (.slice (some ⟨g, 0, none⟩) m cap) q n F O' Q := by
  have hZ := h.after oZ
  have hqn : ∀ j, q.ownBlock = some j → j < Z.heap.size := fun j hj => ownsR_lt hZ.que hj
  refine ⟨hZ.old.grown hg fun k e => (World.ownsRow.lt h.out k e).1, hown, hZ.que.kept hg ?_, hZ.mp.kept hg fun e => h.ob e.symm, fun j hj e => ?_, fun e => ?_, h.qb, h.m0⟩
  · cases hq : q.ownBlock with
    | none => exact .inl rfl
    | some j => exact .inr fun e => h.ap j e.symm hq
  · obtain rfl : g = j := Option.some.inj hj
    rcases hat with h1 | h1
    · exact h.ap g h1 e
    · have := hqn g e; omega
  · obtain rfl : g = mb := Option.some.inj e
    rcases hat with h1 | h1
    · exact h.ob h1
    · have := hZ.mp.lt; omega
theorem RSt.putQ (h : RSt w wx mb o q n F O Q) (oZ : Old wx Z) (hg : Z.grownBy W q.ownBlock) {g m cap : Nat} {Q' : List ByteArray} (hown : OwnS txE 9 w W (.slice (some ⟨g, 0, none⟩) m cap) Q') (hat : q.ownBlock = some g ∨ g = Z.heap.size) :
    RSt w W mb o (.slice (some ⟨g, 0, none⟩) m cap) n F O Q' := by
  have hZ := h.after oZ
  have hon : ∀ j, o.ownBlock = some j → j < Z.heap.size := fun j hj => ownsR_lt hZ.out hj
  refine ⟨hZ.old.grown hg fun k e => (World.ownsRow.lt h.que k e).1, hZ.out.kept hg ?_, hown, hZ.mp.kept hg fun e => h.qb e.symm, fun j hj e => ?_, h.ob, fun e => ?_, h.m0⟩
  · cases ho : o.ownBlock with
    | none => exact .inl rfl
    | some j => exact .inr fun e => h.ap j ho e.symm
  · obtain rfl : g = j := Option.some.inj e
    rcases hat with h1 | h1
    · exact h.ap g hj h1
    · have := hon g hj; omega
  · obtain rfl : g = mb := Option.some.inj e
    rcases hat with h1 | h1
    · exact h.qb h1
    · have := hZ.mp.lt; omega
theorem OwnS.fresh {α : Type} {c : Enc α} {E : TypeId} {w0 w : World} (x : α) (hb : w0.heap.size ≤ w.heap.size) : OwnS c E w0 (w.alloc (.cells (c.enc x).toArray E)) (.slice (some ⟨w.heap.size, 0, none⟩) 1 1) [x] := by
  have hl := c.len x
  refine ⟨by rw [Enc.all_length], .inr ⟨w.heap.size, 1, (c.enc x).toArray, rfl, hb, heap_alloc_new w _, Nat.le_refl _, by simp [maxLen], by simp [hl], ?_⟩⟩
  rw [Enc.all_one]
  simp [← hl]
theorem RSt.made (w : World) (f : ByteArray) : RSt w ((w.alloc (.map #[] 0)).alloc (.cells #[.string f] 9)) w.heap.size (.slice none 0 0) (.slice (some ⟨w.heap.size + 1, 0, none⟩) 1 1) 0 (markV []) [] [f] := by
  have hs : (w.alloc (.map #[] 0)).heap.size = w.heap.size + 1 := by simp
  have hq := OwnS.fresh (c := txE) (E := 9) (w0 := w) (w := w.alloc (.map #[] 0)) f (by omega)
  rw [hs] at hq
  refine ⟨((Old.refl w).alloc _).alloc _, OwnS.nil _ _ _ _, hq, ?_, fun g e => by simp [Value.ownBlock] at e, by simp [Value.ownBlock], fun e => ?_, Nat.le_refl _⟩
  · have := (MapV.made Tryz.prog 9 Value.string w).old ((Old.refl _).alloc (.cells #[.string f] 9))
    rw [show markV [] = fun _ => none from by funext q; exact markV_out (by simp)]
    exact this
  · have : w.heap.size + 1 = w.heap.size := Option.some.inj e
    omega
set_option maxRecDepth 100000 in
set_option maxHeartbeats 6400000 in
theorem RReach_any (v : Value) (l : List En) (a : ByteArray) (w : World) (hv : Ents w v l) (hU : (l.flatMap En.sees).length ≤ 1000000)
    (hsz : ∀ e ∈ l, e.term.size ≤ 4194304 ∧ (foldS e.term).size ≤ 4194304 ∧ ∀ x ∈ e.sees, x.size ≤ 4194304 ∧ (foldS x).size ≤ 4194304) :
    Calls Tryz.prog 68 #[v, .string a] w fun e w' => (∃ u O, e = .returned u ∧ IsReach (edgeL l) a O ∧ OwnS txE 9 w w' u O) ∧ Old w w' := by
  obtain ⟨sa, cap, rfl, hc1, hc2⟩ := Seqs.form hv
  obtain ⟨b, off, hea, heat⟩ := Ents.open hv
  have Hea := Lib.hid hea
  have Heat := Lib.hid heat
  have Hsz := Lib.hid hsz
  obtain ⟨U, hUe⟩ : ∃ U, (l.flatMap En.sees).map foldS = U := ⟨_, rfl⟩
  have hUl : U.length ≤ 1000000 := by rw [← hUe, List.length_map]; omega
  have HU : Hid (∀ x y, edgeL l x y → y ∈ U) := Lib.hid fun x y ⟨e, he, _, _, s, hs, hy⟩ => by
    rw [← hUe]
    exact List.mem_map.2 ⟨s, List.mem_flatMap.2 ⟨e, he, hs⟩, hy⟩
  have Hed : Hid (∀ (k : Nat) (e : En) (s x : ByteArray), l[k]? = some e → e.sub = noB → foldS e.term = x → s ∈ e.sees → edgeL l x (foldS s)) := Lib.hid fun k e s x he h1 h2 hs => ⟨e, List.mem_of_getElem? he, h1, h2, s, hs, rfl⟩
  have Hno : Hid (∀ (x : ByteArray) (O : List ByteArray), (∀ (k : Nat) (e : En) (s : ByteArray), k < l.length → l[k]? = some e → e.sub = noB → foldS e.term = x → s ∈ e.sees → foldS s ∈ O) → ∀ y, edgeL l x y → y ∈ O) := Lib.hid fun x O h y ⟨e, he, h1, h2, s, hs, hy⟩ => by
    obtain ⟨k, hk⟩ := List.getElem?_of_mem he
    exact hy ▸ h k e s (List.getElem?_eq_some_iff.1 hk).1 hk h1 h2 hs
  have HS0 := Lib.hid (RSt.made w a)
  have Hes : Hid (∀ (x : ByteArray), x ∈ U → x.size ≤ 4194304) := Lib.hid fun x hx => by
    rw [← hUe] at hx
    obtain ⟨s, hs, rfl⟩ := List.mem_map.1 hx
    obtain ⟨e, he, hs⟩ := List.mem_flatMap.1 hs
    exact ((hsz e he).2.2 s hs).2
  have hmm := @run_makeMap Tryz.prog
  generalize edgeL l = E at *
  clear hv hea heat hsz hU hUe
  go_enter Tryz.func68, Tryz.ntmps68
  go_upto_region 5 with fail
  generalize (w.alloc (.map #[] 0)).alloc (.cells #[.string a] 9) = w0 at *
  have hm0 : w.heap.size < w.heap.size + 1 := by omega
  generalize w.heap.size + 1 = qb0 at *
  generalize w.heap.size = mb at *
  clear hmm
  go_loopg [5, 7, 8] (U.length + 2) (fun c o q iv wr => ∃ (O : List ByteArray) (i : Nat), iv = .int .i64 i ∧ RSt w wr mb o q O.length (markV O) O (a :: O) ∧ BfR E a O i ∧ U.length + 2 - i ≤ c)
  case atStart => exact ⟨[], 0, rfl, HS0.out, BfR.init, Nat.le_refl _⟩
  case round =>
    clear HS0
    obtain ⟨O, i, rfl, hS, hB, hc⟩ := hrel
    have HS := Lib.hid hS
    have HB := Lib.hid hB
    have hOU := hB.bound HU.out
    have hile := hB.le
    obtain ⟨aq, cq, rfl, hq1, hq2⟩ := hS.que.form
    obtain ⟨ao, co, rfl, ho1, ho2⟩ := hS.out.form
    have hql : (a :: O).length = O.length + 1 := rfl
    rw [hql] at HS hq1 ⊢
    clear hS hB
    by_cases hlt : i < O.length + 1
    · have hi1 : (i : Int) < ((O.length + 1 : Nat) : Int) := by omega
      obtain ⟨x, hx⟩ : ∃ x, (a :: O)[i]? = some x := ⟨_, List.getElem?_eq_getElem (by rw [hql]; exact hlt)⟩
      have Hx := Lib.hid hx
      have HSx : Hid (RSt w wr mb (.slice ao O.length co) (.slice aq (O.length + 1) cq) O.length (markV O) O (a :: O)) := HS
      clear hx
      go_upto_region 8 with fail
      go_loopw [5, 7, 25] (fun o q jv wx => ∃ (O : List ByteArray) (j : Nat), jv = .int .i64 j ∧ j ≤ l.length ∧ RSt w wx mb o q O.length (markV O) O (a :: O) ∧ BfR E a O i ∧ (a :: O)[i]? = some x ∧ ∀ (k : Nat) (e : En) (s : ByteArray), k < j → l[k]? = some e → e.sub = noB → foldS e.term = x → s ∈ e.sees → foldS s ∈ O) (fun _ _ jv _ => l.length - (intOf jv).toNat)
      case atStart => exact ⟨O, 0, rfl, Nat.zero_le _, HSx.out, HB.out, Hx.out, fun k e s hk => absurd hk (Nat.not_lt_zero k)⟩
      case round =>
        clear HS HSx HB Hx hOU hile hq1 hq2 ho1 ho2 hql hi1 hlt
        obtain ⟨O, j, rfl, hj, hS, hB, hx, hall⟩ := hrel
        have HS := Lib.hid hS
        have HB := Lib.hid hB
        have Hx := Lib.hid hx
        have Hall := Lib.hid hall
        have ho := Lib.hid hS.old
        have hOU := hB.bound HU.out
        have hile := hB.le
        obtain ⟨aq, cq, rfl, hq1, hq2⟩ := hS.que.form
        obtain ⟨ao, co, rfl, ho1, ho2⟩ := hS.out.form
        have hil : i < O.length + 1 := by have := (List.getElem?_eq_some_iff.1 hx).1; rwa [List.length_cons] at this
        have hil1 : (i : Int) < (O.length : Int) + 1 := by omega
        obtain ⟨gq, rfl, hgq1, hgq2⟩ := hS.que.block (by rw [List.length_cons]; omega)
        have qc := later (tx_cell hS.que hx)
        clear hS hB hx hall
        by_cases hlt : j < l.length
        · have hj1 : (j : Int) < l.length := by omega
          obtain ⟨e, he⟩ : ∃ e, l[j]? = some e := ⟨_, List.getElem?_eq_getElem hlt⟩
          obtain ⟨a2, c2, a3, c3, hcs, _, hts⟩ := Heat.out j e he
          obtain rfl := Hea.out (by omega)
          have c0 : ∀ V, Old wr V → V.cell? ⟨b, off + j * 4, none⟩ = some (.string e.term) := fun V o => (hcs V (ho.out.trans o)).1
          have c1 : ∀ V, Old wr V → V.cell? ⟨b, off + j * 4 + 1, none⟩ = some (.string e.sub) := fun V o => (hcs V (ho.out.trans o)).2.1
          have c2' : ∀ V, Old wr V → V.cell? ⟨b, off + j * 4 + 2, none⟩ = some (.slice a2 e.topics.length c2) := fun V o => (hcs V (ho.out.trans o)).2.2.1
          have c3' : ∀ V, Old wr V → V.cell? ⟨b, off + j * 4 + 3, none⟩ = some (.slice a3 e.sees.length c3) := fun V o => (hcs V (ho.out.trans o)).2.2.2
          obtain ⟨hz1, _, hz3⟩ := Hsz.out e (List.mem_of_getElem? he)
          have Hz3 := Lib.hid hz3
          have Hts := Lib.hid hts
          have hsl : e.sees.length ≤ 9223372036854775807 := by
            obtain ⟨_, _, _, h1, h2⟩ := hts.form
            omega
          have HF := Lib.hid (fun V => RFold_any e.term V hz1)
          have Hskip : Hid (¬ (e.sub = noB ∧ foldS e.term = x) → ∀ (k : Nat) (e' : En) (s : ByteArray), k < j + 1 → l[k]? = some e' → e'.sub = noB → foldS e'.term = x → s ∈ e'.sees → foldS s ∈ O) := Lib.hid fun h k e' s hk he' h1 h2 hs => by
            rcases Nat.lt_or_ge k j with h3 | h3
            · exact Hall.out k e' s h3 he' h1 h2 hs
            · obtain rfl : k = j := by omega
              obtain rfl := Option.some.inj (he.symm.trans he')
              exact absurd ⟨h1, h2⟩ h
          have Hedj : Hid (e.sub = noB → foldS e.term = x → ∀ s ∈ e.sees, E x (foldS s)) := Lib.hid fun h1 h2 s hs => Hed.out j e s x he h1 h2 hs
          have Hfull : Hid (∀ O' : List ByteArray, (∀ (k : Nat) (e : En) (s : ByteArray), k < j → l[k]? = some e → e.sub = noB → foldS e.term = x → s ∈ e.sees → foldS s ∈ O') → (∀ s ∈ e.sees, foldS s ∈ O') → ∀ (k : Nat) (e' : En) (s : ByteArray), k < j + 1 → l[k]? = some e' → e'.sub = noB → foldS e'.term = x → s ∈ e'.sees → foldS s ∈ O') := Lib.hid fun O' h1 h2 k e' s hk he' h3 h4 hs => by
            rcases Nat.lt_or_ge k j with h5 | h5
            · exact h1 k e' s h5 he' h3 h4 hs
            · obtain rfl : k = j := by omega
              obtain rfl := Option.some.inj (he.symm.trans he')
              exact h2 s hs
          clear hcs hts he hz3
          generalize hft : foldS e.term = t at *
          go_upto_region 10 with fail
          have oa : Old wr (wr.alloc (.cells #[.string e.term, .string e.sub, .slice a2 e.topics.length c2, .slice a3 e.sees.length c3] 45)) := (Old.refl wr).alloc _
          have d0 := later (show (wr.alloc (.cells #[.string e.term, .string e.sub, .slice a2 e.topics.length c2, .slice a3 e.sees.length c3] 45)).cell? ⟨wr.heap.size, 0, none⟩ = some (.string e.term) by simp [go_sem])
          have d1 := later (show (wr.alloc (.cells #[.string e.term, .string e.sub, .slice a2 e.topics.length c2, .slice a3 e.sees.length c3] 45)).cell? ⟨wr.heap.size, 1, none⟩ = some (.string e.sub) by simp [go_sem])
          have d3 := later (show (wr.alloc (.cells #[.string e.term, .string e.sub, .slice a2 e.topics.length c2, .slice a3 e.sees.length c3] 45)).cell? ⟨wr.heap.size, 3, none⟩ = some (.slice a3 e.sees.length c3) by simp [go_sem])
          have HSa := Lib.hid (HS.out.after oa)
          have qd := fun V (o : Old (wr.alloc (.cells #[.string e.term, .string e.sub, .slice a2 e.topics.length c2, .slice a3 e.sees.length c3] 45)) V) => qc V (oa.trans o)
          generalize wr.alloc (.cells #[.string e.term, .string e.sub, .slice a2 e.topics.length c2, .slice a3 e.sees.length c3] 45) = wB at *
          generalize wr.heap.size = g9 at *
          clear c0 c1 c2' c3' qc oa HS ho
          by_cases hsub : e.sub = noB
          · have hsb : e.sub = ⟨#[]⟩ := hsub
            rw [hsb] at d1
            by_cases ht : t = x
            · have htb := str_bnn ht
              have htq := str_eqt ht
              have Hedx := Lib.hid (Hedj.out hsub ht)
              clear Hedj Hskip
              refine wp_region_old (Old.refl _) (by kernel_rfl) (by kernel_rfl) ?_
              repeat (go_big_quiet_step (with_reducible exact Calls.in_old (HF.out _)))
              refine wpQuiet_nil ?_
              rintro ⟨wq, hq⟩
              dsimp only
              have HSq := Lib.hid (HSa.out.after hq)
              have d3q := fun V (o : Old wq V) => d3 V (hq.trans o)
              obtain ⟨bt, ot, hat3, htx⟩ := Hts.out.at1
              have Hat3 := Lib.hid hat3
              have Htx := Lib.hid htx
              clear d0 d1 d3 qd HSa hat3 htx
              go_upto_region 12 with fail
              go_loopw [5, 7, 45] (fun o q mv wx => ∃ (O : List ByteArray) (m : Nat), mv = .int .i64 m ∧ m ≤ e.sees.length ∧ RSt w wx mb o q O.length (markV O) O (a :: O) ∧ BfR E a O i ∧ (a :: O)[i]? = some x ∧ (∀ (k : Nat) (e : En) (s : ByteArray), k < j → l[k]? = some e → e.sub = noB → foldS e.term = x → s ∈ e.sees → foldS s ∈ O) ∧ ∀ (k : Nat) (s : ByteArray), k < m → e.sees[k]? = some s → foldS s ∈ O) (fun _ _ mv _ => e.sees.length - (intOf mv).toNat)
              case atStart => exact ⟨O, 0, rfl, Nat.zero_le _, HSq.out, HB.out, Hx.out, Hall.out, fun k s hk => absurd hk (Nat.not_lt_zero k)⟩
              case round =>
                clear d3q HSq HB Hx Hall hOU hile hq1 hq2 ho1 ho2 hil hil1 hgq1 hgq2 hq htb htq
                obtain ⟨O, m, rfl, hm, hS, hB, hx, hall, hdone⟩ := hrel
                have HS := Lib.hid hS
                have HB := Lib.hid hB
                have Hx := Lib.hid hx
                have Hall := Lib.hid hall
                have Hdone := Lib.hid hdone
                have ho := Lib.hid hS.old
                have hOU := hB.bound HU.out
                obtain ⟨aq, cq, rfl, hq1, hq2⟩ := hS.que.form
                obtain ⟨ao, co, rfl, ho1, ho2⟩ := hS.out.form
                have hil : i < O.length + 1 := by have := (List.getElem?_eq_some_iff.1 hx).1; rwa [List.length_cons] at this
                clear hS hB hx hall hdone
                by_cases hlt3 : m < e.sees.length
                · have hm1 : (m : Int) < e.sees.length := by omega
                  obtain ⟨s, hs⟩ : ∃ s, e.sees[m]? = some s := ⟨_, List.getElem?_eq_getElem hlt3⟩
                  have hsm := List.mem_of_getElem? hs
                  obtain ⟨hs1, hs2⟩ := Hz3.out s hsm
                  obtain rfl := Hat3.out (by omega)
                  have ck := Htx.out m s hs wr ho.out
                  have HFs := Lib.hid (RFold_any s wr hs1)
                  have hEs := Hedx.out s hsm
                  have Hnx : Hid (∀ O' : List ByteArray, (∀ z, z ∈ O → z ∈ O') → foldS s ∈ O' → ∀ (k : Nat) (z : ByteArray), k < m + 1 → e.sees[k]? = some z → foldS z ∈ O') := Lib.hid fun O' h1 h2 k z hk hz => by
                    rcases Nat.lt_or_ge k m with h | h
                    · exact h1 _ (Hdone.out k z h hz)
                    · obtain rfl : k = m := by omega
                      obtain rfl := Option.some.inj (hs.symm.trans hz)
                      exact h2
                  clear hs hsm
                  generalize foldS s = y at *
                  have hky := Lib.hid (keyK (s := y) (by omega))
                  by_cases hin : y ∈ O
                  · have Hin := Lib.hid hin
                    have Hmk := Lib.hid (markV_in hin)
                    clear hin hEs
                    go_wp2_with (first
                      | (go_at_call 12; (with_reducible refine HFs.out.mono ?_); rintro e' w4 ⟨rfl, o4⟩; have HS4 := Lib.hid (HS.out.after o4))
                      | (refine wpList_lookup_mv rfl _ _ _ rfl 9 3 (string_keyed Tryz.underlying9) Value.string Tryz.underlying54 (.int .i64 0) zeroIntK mb _ _ rfl HS4.out.mp y _ rfl hky.out _ Hmk.out ?_; rw [show (some (Value.int .i64 1)).getD (.int .i64 0) = .int .i64 1 from rfl]))
                    go_roundw
                    case rel => exact ⟨O, m + 1, by go_num, by omega, HS4.out, HB.out, Hx.out, Hall.out, Hnx.out O (fun _ h => h) Hin.out⟩
                    case measure => simp [intOf]; omega
                  · have HB1 := Lib.hid (HB.out.put (List.mem_of_getElem? Hx.out) hEs hin)
                    have Hmk := Lib.hid (markV_out hin)
                    have Hmk1 := Lib.hid (markV_snoc O y)
                    clear hin hEs
                    go_wp2_with (first
                      | (go_at_call 12; (with_reducible refine HFs.out.mono ?_); rintro e' w4 ⟨rfl, o4⟩; have HS4 := Lib.hid (HS.out.after o4))
                      | (refine wpList_lookup_mv rfl _ _ _ rfl 9 3 (string_keyed Tryz.underlying9) Value.string Tryz.underlying54 (.int .i64 0) zeroIntK mb _ _ rfl HS4.out.mp y _ rfl hky.out _ Hmk.out ?_; rw [show (none : Option Value).getD (.int .i64 0) = .int .i64 0 from rfl])
                      | (refine wpList_update_mv rfl _ _ _ _ rfl 9 3 (string_keyed Tryz.underlying9) Value.string (fun _ _ => str_kv) Tryz.underlying54 mb _ _ rfl HS4.out.mp (by omega) y _ rfl hky.out (.int .i64 1) rfl ?_; intro w5 hM5 hg5; rw [← Hmk1.out] at hM5; have HS5 := Lib.hid (HS4.out.mark hg5 hM5); clear hM5 hg5)
                      | (at_builtin; go_loud (refine wpList_append_at (c := txE) (w0 := w) rfl _ _ 43 rfl 9 Tryz.underlying43 (.string ⟨#[]⟩) infoStrK rfl (Nat.zero_lt_succ 0) (.slice ao O.length co) O [y] rfl (HS5.out.out.old ((Old.refl w5).alloc _)) _ rfl (Recs.oneAt (c := txE) w5 9 y rfl) (Nat.zero_lt_succ 0) (by simp; omega) (by simp; omega) (by have := HS5.out.old.size; simp; omega) ?_); intro g6 cp6 w6 hown6 hg6 hat6 hlt6; have HS6 := Lib.hid (HS5.out.putO ((Old.refl w5).alloc _) hg6 hown6 hat6); clear hown6 hg6 hat6 hlt6)
                      | (at_builtin; go_loud (refine wpList_append_at (c := txE) (w0 := w) rfl _ _ 43 rfl 9 Tryz.underlying43 (.string ⟨#[]⟩) infoStrK rfl (Nat.zero_lt_succ 0) (.slice aq (a :: O).length cq) (a :: O) [y] rfl (HS6.out.que.old ((Old.refl w6).alloc _)) _ rfl (Recs.oneAt (c := txE) w6 9 y rfl) (Nat.zero_lt_succ 0) (by simp; omega) (by simp; omega) (by have := HS6.out.old.size; simp; omega) ?_); intro g7 cp7 w7 hown7 hg7 hat7 hlt7; have HS7 := Lib.hid (HS6.out.putQ ((Old.refl w6).alloc _) hg7 hown7 hat7); clear hown7 hg7 hat7 hlt7))
                    go_roundw
                    case rel => exact ⟨O ++ [y], m + 1, by go_num, by omega, by rw [List.length_append]; exact HS7.out, HB1.out, by rw [← List.cons_append, List.getElem?_append_left (by rw [List.length_cons]; omega)]; exact Hx.out, fun k e s h1 h2 h3 h4 h5 => List.mem_append_left _ (Hall.out k e s h1 h2 h3 h4 h5), Hnx.out _ (fun z h => List.mem_append_left _ h) (by simp)⟩
                    case measure => simp [intOf]; omega
                · obtain rfl : m = e.sees.length := by omega
                  have hm1 : ¬ (e.sees.length : Int) < e.sees.length := by omega
                  go_wp2_with fail
                  go_roundw
                  case rel =>
                    refine ⟨_, _, _, _, _, _, ⟨O, j + 1, ?_, by omega, HS.out, HB.out, Hx.out, Hfull.out O Hall.out fun s hs => ?_⟩, rfl, rfl, rfl, rfl, rfl, rfl⟩
                    · go_num
                    · obtain ⟨k, hk⟩ := List.getElem?_of_mem hs
                      exact Hdone.out k s (List.getElem?_eq_some_iff.1 hk).1 hk
                  case measure => simp [intOf]; omega
            · have htb := str_bne ht
              have htq := str_eqf ht
              have Hsk := Lib.hid (Hskip.out fun h => ht h.2)
              clear Hedj Hskip Hfull ht
              refine wp_region_old (Old.refl _) (by kernel_rfl) (by kernel_rfl) ?_
              repeat (go_big_quiet_step (with_reducible exact Calls.in_old (HF.out _)))
              refine wpQuiet_nil ?_
              rintro ⟨wq, hq⟩
              dsimp only
              go_wp2_with fail
              go_roundw
              case rel => exact ⟨O, j + 1, by go_num, by omega, HSa.out.after hq, HB.out, Hx.out, Hsk.out⟩
              case measure => simp [intOf]; omega
          · have hn := str_nilK hsub
            have Hsk := Lib.hid (Hskip.out fun h => hsub h.1)
            clear Hedj Hskip Hfull hsub
            refine wp_region_old (Old.refl _) (by kernel_rfl) (by kernel_rfl) ?_
            repeat (go_big_quiet_step (fail))
            refine wpQuiet_nil ?_
            rintro ⟨wq, hq⟩
            dsimp only
            go_wp2_with fail
            go_roundw
            case rel => exact ⟨O, j + 1, by go_num, by omega, HSa.out.after hq, HB.out, Hx.out, Hsk.out⟩
            case measure => simp [intOf]; omega
        · obtain rfl : j = l.length := by omega
          have hj1 : ¬ (l.length : Int) < l.length := by omega
          have HB1 := Lib.hid (HB.out.next Hx.out (Hno.out x O Hall.out))
          go_wp2_with fail
          go_roundg (gk - 1)
          case measure => omega
          case rel => exact ⟨O, i + 1, by go_num, HS.out, HB1.out, by omega⟩
    · have hi1 : ¬ (i : Int) < ((O.length + 1 : Nat) : Int) := by omega
      have hR := Lib.hid (HB.out.all (by omega))
      go_wp2_with fail
      go_ret
      exact ⟨⟨_, rfl, _, hR.out, HS.out.out⟩, HS.out.old⟩
end Go.Proofs.YtohngjkedhpikaaGreatDoor
/-
  KEYWORD, RO: the document's one and Check.
-/
namespace Go.Proofs.YtohngjkedhpikaaGreatDoor
open Go.RowKit Go.Maps
attribute [local go_sem] Old.refl Old.alloc Old.drew Old.setCell OldW.old

/-- what the document asks of an entry's numbers and sees -/
def badR (e : En) (topics : Int) : Prop := ¬ risK e.topics topics ∨ (e.topics.length = 0 ∧ e.sees.length = 0) ∨ (0 < e.sees.length ∧ ¬ e.sub = noB) ∨ ¬ ordK e.sees
def badT (e : En) : Prop := ¬ (mayT e.term = true ∧ (e.sub = noB ∨ mayT e.sub = true))
theorem one_term {l : List En} {t : Int} {i : Nat} {e : En} (h : badT e) : oneK l t i e = 90 := by
  have := aloneK_term (t := t) h
  rw [oneK_alone (by rw [this]; decide), this]
theorem one_see {l : List En} {t : Int} {i : Nat} {e : En} (h : ¬ badT e) (h2 : ¬ ∀ s ∈ e.sees, mayT s = true) : oneK l t i e = 90 := by
  have := aloneK_see (t := t) (Classical.not_not.1 h) h2
  rw [oneK_alone (by rw [this]; decide), this]
theorem one_range {l : List En} {t : Int} {i : Nat} {e : En} (h : ¬ badT e) (h2 : ∀ s ∈ e.sees, mayT s = true) (h3 : badR e t) : oneK l t i e = 1 := by
  have h := Classical.not_not.1 h
  have : aloneK e t = 1 := by
    by_cases h4 : risK e.topics t
    · by_cases h5 : e.topics.length + e.sees.length = 0 ∨ (¬ e.sub = noB ∧ ¬ e.sees = [])
      · exact aloneK_none h h2 h4 h5
      · by_cases h6 : ordK e.sees
        · exfalso
          rcases h3 with h3 | ⟨h3, h7⟩ | ⟨h3, h7⟩ | h3
          · exact h3 h4
          · exact h5 (.inl (by omega))
          · exact h5 (.inr ⟨h7, fun k => by rw [k] at h3; simp at h3⟩)
          · exact h3 h6
        · exact aloneK_ord h h2 h4 h5 h6
    · exact aloneK_rise h h2 h4
  rw [oneK_alone (by rw [this]; decide), this]
theorem alone_ok {t : Int} {e : En} (h : ¬ badT e) (h2 : ∀ s ∈ e.sees, mayT s = true) (h3 : ¬ badR e t) : aloneK e t = 0 := by
  unfold badR at h3
  refine aloneK_ok (Classical.not_not.1 h) h2 (Classical.not_not.1 fun k => h3 (.inl k)) (fun k => ?_) (Classical.not_not.1 fun k => h3 (.inr (.inr (.inr k))))
  rcases k with k | ⟨k1, k2⟩
  · exact h3 (.inr (.inl ⟨by omega, by omega⟩))
  · exact h3 (.inr (.inr (.inl ⟨List.length_pos_iff.2 k2, k1⟩)))
theorem RetBK.yes {e : Ending} {p : Prop} (h : RetBK e p) (hp : p) : e = .returned (.bool true) := by
  obtain ⟨r, rfl, hr⟩ := h
  rw [hr.2 hp]
theorem RetBK.no {e : Ending} {p : Prop} (h : RetBK e p) (hp : ¬ p) : e = .returned (.bool false) := by
  obtain ⟨r, rfl, hr⟩ := h
  cases r with
  | false => rfl
  | true => exact absurd (hr.1 rfl) hp
set_option maxRecDepth 100000 in
set_option maxHeartbeats 6400000 in
theorem ROne_any (v : Value) (l : List En) (i : Nat) (e : En) (topics : Int) (w : World) (hv : Ents w v l) (he : l[i]? = some e)
    (hsz : ∀ e ∈ l, e.term.size ≤ 4194304 ∧ e.sub.size ≤ 4194304 ∧ (foldS e.term).size ≤ 4194304 ∧ (foldS e.sub).size ≤ 4194304 ∧ ∀ x ∈ e.sees, x.size ≤ 4194304 ∧ (foldS x).size ≤ 4194304) :
    Calls Tryz.prog 66 #[v, .int .i64 i, .int .i64 topics] w fun e' w' => e' = .returned (.int .i64 (oneK l topics i e)) ∧ Old w w' := by
  obtain ⟨sa, cap, rfl, hc1, hc2⟩ := Seqs.form hv
  obtain ⟨b, off, hea, heat⟩ := Ents.open hv
  have hil := (List.getElem?_eq_some_iff.1 he).1
  have hi1 : (i : Int) < l.length := by omega
  have hi0 : (0 : Int) ≤ i := by omega
  obtain ⟨a2, c2, a3, c3, hcs, hIs, hts⟩ := heat i e he
  obtain rfl := hea (by omega)
  have c0 : ∀ V, Old w V → V.cell? ⟨b, off + i * 4, none⟩ = some (.string e.term) := fun V o => (hcs V o).1
  have c1 : ∀ V, Old w V → V.cell? ⟨b, off + i * 4 + 1, none⟩ = some (.string e.sub) := fun V o => (hcs V o).2.1
  have c2' : ∀ V, Old w V → V.cell? ⟨b, off + i * 4 + 2, none⟩ = some (.slice a2 e.topics.length c2) := fun V o => (hcs V o).2.2.1
  have c3' : ∀ V, Old w V → V.cell? ⟨b, off + i * 4 + 3, none⟩ = some (.slice a3 e.sees.length c3) := fun V o => (hcs V o).2.2.2
  have hsl : e.sees.length ≤ 9223372036854775807 := by
    obtain ⟨_, _, _, h1, h2⟩ := hts.form
    omega
  obtain ⟨hz1, hz2, hz3, hz4, hz5⟩ := hsz e (List.mem_of_getElem? he)
  have HM1 := Lib.hid (fun V => RMay_any e.term V hz1)
  have HM2 := Lib.hid (fun V => RMay_any e.sub V hz2)
  have HMs := Lib.hid (fun x (hx : x ∈ e.sees) V => RMay_any x V (hz5 x hx).1)
  have HRi := Lib.hid (fun V (o : Old w V) => RRising_any _ e.topics topics V (hIs.old o))
  have HOr := Lib.hid (fun V (o : Old w V) => ROrdered_any _ e.sees V (hts.old o) hz5)
  have Hk90 := Lib.hid (fun h => one_term (l := l) (t := topics) (i := i) (e := e) h)
  have Hk91 := Lib.hid (fun h h2 => one_see (l := l) (t := topics) (i := i) (e := e) h h2)
  have Hk1 := Lib.hid (fun h h2 h3 => one_range (l := l) (t := topics) (i := i) (e := e) h h2 h3)
  have Hal := Lib.hid (fun h h2 h3 => alone_ok (t := topics) (e := e) h h2 h3)
  have Hz := Lib.hid (fun h => oneK_first (l := l) (t := topics) (e := e) h)
  have Hts := Lib.hid hts
  have HE := Lib.hid heat
  have Hsz := Lib.hid hsz
  have He := Lib.hid he
  clear hea heat hcs hIs hts hv hz5 hsz he
  go_enter Tryz.func66, Tryz.ntmps66
  go_upto_region 2 with fail
  have oa : Old w (w.alloc (.cells #[.string e.term, .string e.sub, .slice a2 e.topics.length c2, .slice a3 e.sees.length c3] 45)) := (Old.refl w).alloc _
  have d0 := later (show (w.alloc (.cells #[.string e.term, .string e.sub, .slice a2 e.topics.length c2, .slice a3 e.sees.length c3] 45)).cell? ⟨w.heap.size, 0, none⟩ = some (.string e.term) by simp [go_sem])
  have d1 := later (show (w.alloc (.cells #[.string e.term, .string e.sub, .slice a2 e.topics.length c2, .slice a3 e.sees.length c3] 45)).cell? ⟨w.heap.size, 1, none⟩ = some (.string e.sub) by simp [go_sem])
  have d2 := later (show (w.alloc (.cells #[.string e.term, .string e.sub, .slice a2 e.topics.length c2, .slice a3 e.sees.length c3] 45)).cell? ⟨w.heap.size, 2, none⟩ = some (.slice a2 e.topics.length c2) by simp [go_sem])
  have d3 := later (show (w.alloc (.cells #[.string e.term, .string e.sub, .slice a2 e.topics.length c2, .slice a3 e.sees.length c3] 45)).cell? ⟨w.heap.size, 3, none⟩ = some (.slice a3 e.sees.length c3) by simp [go_sem])
  generalize wA' : w.alloc (.cells #[.string e.term, .string e.sub, .slice a2 e.topics.length c2, .slice a3 e.sees.length c3] 45) = wA at *
  generalize w.heap.size = g7 at *
  clear c0 c1 c2' c3' wA'
  go_cut [29] (fun u wy => ∃ r : Bool, u = .bool r ∧ (r = true ↔ badT e) ∧ Old wA wy)
  case first =>
    cases hm : mayT e.term with
    | false =>
      rw [hm] at HM1
      go_wp2_with (go_at_call 106; (with_reducible refine (HM1.out _).mono ?_); rintro z w5 ⟨rfl, o5⟩)
      go_meet
      exact ⟨true, rfl, by simp [badT, hm], o5⟩
    | true =>
      rw [hm] at HM1
      by_cases hs : e.sub = noB
      · have hsb : e.sub = ⟨#[]⟩ := hs
        have hbt : ¬ badT e := fun k => k ⟨hm, .inl hs⟩
        rw [hsb] at d1
        go_wp2_with (go_at_call 106; (with_reducible refine (HM1.out _).mono ?_); rintro z w5 ⟨rfl, o5⟩)
        go_meet
        exact ⟨false, rfl, by simp [hbt], o5⟩
      · have hn := str_nilK hs
        cases hm2 : mayT e.sub with
        | false =>
          have hbt : badT e := fun k => k.2.elim hs fun k => by rw [hm2] at k; cases k
          rw [hm2] at HM2
          go_wp2_with (first
            | (go_at_call 106; (with_reducible refine (HM1.out _).mono ?_); rintro z w5 ⟨rfl, o5⟩)
            | (go_at_call 106; (with_reducible refine (HM2.out _).mono ?_); rintro z w6 ⟨rfl, o6⟩))
          go_meet
          exact ⟨true, rfl, by simp [hbt], o5.trans o6⟩
        | true =>
          have hbt : ¬ badT e := fun k => k ⟨hm, .inr hm2⟩
          rw [hm2] at HM2
          go_wp2_with (first
            | (go_at_call 106; (with_reducible refine (HM1.out _).mono ?_); rintro z w5 ⟨rfl, o5⟩)
            | (go_at_call 106; (with_reducible refine (HM2.out _).mono ?_); rintro z w6 ⟨rfl, o6⟩))
          go_meet
          exact ⟨false, rfl, by simp [hbt], o5.trans o6⟩
  case rest =>
    obtain ⟨wB, hwB⟩ : ∃ x, x = wc := ⟨wc, rfl⟩
    subst hwB
    obtain ⟨r, rfl, hr, ho⟩ := hcut
    have Ho := Lib.hid ho
    cases r with
    | true =>
      have hone := Lib.hid (Hk90.out (hr.1 rfl))
      clear hr d0 d1 d2 d3
      go_wp2_with fail
      go_ret
      exact ⟨(by rw [hone.out]; rfl), oa.trans ho⟩
    | false =>
      have hbt : ¬ badT e := fun k => by have := hr.2 k; cases this
      have Hbt := Lib.hid hbt
      have d3B := fun V (o : Old wB V) => d3 V (ho.trans o)
      obtain ⟨bt, ot, hat3, htx⟩ := Hts.out.at1
      have Hat3 := Lib.hid hat3
      have Htx := Lib.hid htx
      have D0 := Lib.hid d0
      have D1 := Lib.hid d1
      have D2 := Lib.hid d2
      have D3 := Lib.hid d3
      have Oa := Lib.hid oa
      clear hr hbt hat3 htx d0 d1 d2 d3 oa
      go_upto_region 5 with fail
      go_loopw [33] (fun mv wx => ∃ m : Nat, mv = .int .i64 m ∧ m ≤ e.sees.length ∧ (∀ (k : Nat) (s : ByteArray), k < m → e.sees[k]? = some s → mayT s = true) ∧ Old wA wx) (fun mv _ => e.sees.length - (intOf mv).toNat)
      case atStart => exact ⟨0, rfl, Nat.zero_le _, fun k s hk => absurd hk (Nat.not_lt_zero k), Ho.out⟩
      case round =>
        clear d3B ho Ho
        obtain ⟨m, rfl, hm, hdone, ho⟩ := hrel
        have Hdone := Lib.hid hdone
        have Ho := Lib.hid ho
        clear hdone
        by_cases hlt : m < e.sees.length
        · have hm1 : (m : Int) < e.sees.length := by omega
          obtain ⟨s, hs⟩ : ∃ s, e.sees[m]? = some s := ⟨_, List.getElem?_eq_getElem hlt⟩
          have hsm := List.mem_of_getElem? hs
          obtain rfl := Hat3.out (by omega)
          have ck := Htx.out m s hs wr (Oa.out.trans ho)
          have HMs1 := Lib.hid (HMs.out s hsm wr)
          cases hms : mayT s with
          | false =>
            rw [hms] at HMs1
            have hone := Lib.hid (Hk91.out Hbt.out fun h => by have := h s hsm; rw [hms] at this; cases this)
            clear hs hsm hms
            go_wp2_with (go_at_call 106; (with_reducible refine HMs1.out.mono ?_); rintro z w5 ⟨rfl, o5⟩)
            go_ret
            exact ⟨(by rw [hone.out]; rfl), Oa.out.trans (ho.trans o5)⟩
          | true =>
            rw [hms] at HMs1
            have Hnx : Hid (∀ (k : Nat) (z : ByteArray), k < m + 1 → e.sees[k]? = some z → mayT z = true) := Lib.hid fun k z hk hz => by
              rcases Nat.lt_or_ge k m with h | h
              · exact Hdone.out k z h hz
              · obtain rfl : k = m := by omega
                obtain rfl := Option.some.inj (hs.symm.trans hz)
                exact hms
            clear hs hsm hms
            go_wp2_with (go_at_call 106; (with_reducible refine HMs1.out.mono ?_); rintro z w5 ⟨rfl, o5⟩)
            go_roundw
            case rel => exact ⟨m + 1, by go_num, by omega, Hnx.out, ho.trans o5⟩
            case measure => simp [intOf]; omega
        · obtain rfl : m = e.sees.length := by omega
          have hm1 : ¬ (e.sees.length : Int) < e.sees.length := by omega
          have Hall : Hid (∀ s ∈ e.sees, mayT s = true) := Lib.hid fun s hs => by
            obtain ⟨k, hk⟩ := List.getElem?_of_mem hs
            exact Hdone.out k s (List.getElem?_eq_some_iff.1 hk).1 hk
          have d1 := fun V (o : Old wr V) => D1.out V (ho.trans o)
          have d2 := fun V (o : Old wr V) => D2.out V (ho.trans o)
          have d3 := fun V (o : Old wr V) => D3.out V (ho.trans o)
          have HRi' := Lib.hid (fun V (o : Old wr V) => HRi.out V (Oa.out.trans (ho.trans o)))
          have HOr' := Lib.hid (fun V (o : Old wr V) => HOr.out V (Oa.out.trans (ho.trans o)))
          clear Hdone
          go_upto_region 10 with fail
          go_cut [74] (fun u wy => ∃ r : Bool, u = .bool r ∧ (r = true ↔ badR e topics) ∧ Old wr wy)
          case first =>
            clear Hk90 Hk91 HM1 HM2 HMs
            by_cases hr : risK e.topics topics
            · have HR2 := Lib.hid (fun V o => (HRi'.out V o).mono fun z w5 h => And.intro (h.1.yes hr) h.2)
              have hbad0 : badR e topics ↔ ((e.topics.length = 0 ∧ e.sees.length = 0) ∨ (0 < e.sees.length ∧ ¬ e.sub = noB) ∨ ¬ ordK e.sees) := by unfold badR; simp [hr]
              by_cases hS : e.sees.length = 0
              · have hSb : ((e.sees.length : Int) == 0) = true := by rw [beq_iff_eq]; omega
                have hSg : ¬ (0 : Int) < e.sees.length := by omega
                have hnil : e.sees = [] := List.eq_nil_of_length_eq_zero hS
                have hord : ordK e.sees := by rw [hnil]; intro i x y hx; simp at hx
                have HO2 := Lib.hid (fun V o => (HOr'.out V o).mono fun z w5 h => And.intro (h.1.yes hord) h.2)
                by_cases hT0 : e.topics.length = 0
                · have hTb : ((e.topics.length : Int) == 0) = true := by rw [beq_iff_eq]; omega
                  have hbad : badR e topics ↔ True := by rw [hbad0]; simp [hS, hT0]
                  clear hbad0 hnil hord hr HRi' HOr' hS hT0
                  go_wp2_with (first | (go_at_call 107; (with_reducible refine (HR2.out _ (Old.refl _)).mono ?_); rintro z w5 ⟨rfl, o5⟩))
                  go_meet
                  exact ⟨true, rfl, by simp [hbad], o5⟩
                · have hTb : ((e.topics.length : Int) == 0) = false := by rw [beq_eq_false_iff_ne]; omega
                  have hbad : badR e topics ↔ False := by rw [hbad0]; simp [hS, hT0, hord]
                  clear hbad0 hnil hord hr HRi' HOr' hS hT0
                  go_wp2_with (first | (go_at_call 107; (with_reducible refine (HR2.out _ (Old.refl _)).mono ?_); rintro z w5 ⟨rfl, o5⟩) | (go_at_call 108; (with_reducible refine (HO2.out _ o5).mono ?_); rintro z w6 ⟨rfl, o6⟩))
                  go_meet
                  exact ⟨false, rfl, by simp [hbad], o5.trans o6⟩
              · have hSb : ((e.sees.length : Int) == 0) = false := by rw [beq_eq_false_iff_ne]; omega
                have hSg : (0 : Int) < e.sees.length := by omega
                have hSp : 0 < e.sees.length := by omega
                by_cases hs : e.sub = noB
                · have hsb : e.sub = ⟨#[]⟩ := hs
                  rw [hsb] at d1
                  by_cases ho6 : ordK e.sees
                  · have HO2 := Lib.hid (fun V o => (HOr'.out V o).mono fun z w5 h => And.intro (h.1.yes ho6) h.2)
                    have hbad : badR e topics ↔ False := by rw [hbad0]; simp [hS, hs, ho6]
                    clear hbad0 hr HRi' HOr' hsb ho6
                    by_cases hT0 : e.topics.length = 0
                    · have hTb : ((e.topics.length : Int) == 0) = true := by rw [beq_iff_eq]; omega
                      clear hT0 hS hSp
                      go_wp2_with (first | (go_at_call 107; (with_reducible refine (HR2.out _ (Old.refl _)).mono ?_); rintro z w5 ⟨rfl, o5⟩) | (go_at_call 108; (with_reducible refine (HO2.out _ o5).mono ?_); rintro z w6 ⟨rfl, o6⟩))
                      go_meet
                      exact ⟨false, rfl, by simp [hbad], o5.trans o6⟩
                    · have hTb : ((e.topics.length : Int) == 0) = false := by rw [beq_eq_false_iff_ne]; omega
                      clear hT0 hS hSp
                      go_wp2_with (first | (go_at_call 107; (with_reducible refine (HR2.out _ (Old.refl _)).mono ?_); rintro z w5 ⟨rfl, o5⟩) | (go_at_call 108; (with_reducible refine (HO2.out _ o5).mono ?_); rintro z w6 ⟨rfl, o6⟩))
                      go_meet
                      exact ⟨false, rfl, by simp [hbad], o5.trans o6⟩
                  · have HO2 := Lib.hid (fun V o => (HOr'.out V o).mono fun z w5 h => And.intro (h.1.no ho6) h.2)
                    have hbad : badR e topics ↔ True := by rw [hbad0]; simp [hS, hs, ho6]
                    clear hbad0 hr HRi' HOr' hsb ho6
                    by_cases hT0 : e.topics.length = 0
                    · have hTb : ((e.topics.length : Int) == 0) = true := by rw [beq_iff_eq]; omega
                      clear hT0 hS hSp
                      go_wp2_with (first | (go_at_call 107; (with_reducible refine (HR2.out _ (Old.refl _)).mono ?_); rintro z w5 ⟨rfl, o5⟩) | (go_at_call 108; (with_reducible refine (HO2.out _ o5).mono ?_); rintro z w6 ⟨rfl, o6⟩))
                      go_meet
                      exact ⟨true, rfl, by simp [hbad], o5.trans o6⟩
                    · have hTb : ((e.topics.length : Int) == 0) = false := by rw [beq_eq_false_iff_ne]; omega
                      clear hT0 hS hSp
                      go_wp2_with (first | (go_at_call 107; (with_reducible refine (HR2.out _ (Old.refl _)).mono ?_); rintro z w5 ⟨rfl, o5⟩) | (go_at_call 108; (with_reducible refine (HO2.out _ o5).mono ?_); rintro z w6 ⟨rfl, o6⟩))
                      go_meet
                      exact ⟨true, rfl, by simp [hbad], o5.trans o6⟩
                · have hn := str_nilK hs
                  have hbad : badR e topics ↔ True := by rw [hbad0]; simp [hSp, hs]
                  clear hbad0 hr HRi' HOr'
                  by_cases hT0 : e.topics.length = 0
                  · have hTb : ((e.topics.length : Int) == 0) = true := by rw [beq_iff_eq]; omega
                    clear hT0 hS hSp hs
                    go_wp2_with (first | (go_at_call 107; (with_reducible refine (HR2.out _ (Old.refl _)).mono ?_); rintro z w5 ⟨rfl, o5⟩))
                    go_meet
                    exact ⟨true, rfl, by simp [hbad], o5⟩
                  · have hTb : ((e.topics.length : Int) == 0) = false := by rw [beq_eq_false_iff_ne]; omega
                    clear hT0 hS hSp hs
                    go_wp2_with (first | (go_at_call 107; (with_reducible refine (HR2.out _ (Old.refl _)).mono ?_); rintro z w5 ⟨rfl, o5⟩))
                    go_meet
                    exact ⟨true, rfl, by simp [hbad], o5⟩
            · have HR2 := Lib.hid (fun V o => (HRi'.out V o).mono fun z w5 h => And.intro (h.1.no hr) h.2)
              have hbad : badR e topics ↔ True := by unfold badR; simp [hr]
              clear hr HRi' HOr'
              go_wp2_with (first | (go_at_call 107; (with_reducible refine (HR2.out _ (Old.refl _)).mono ?_); rintro z w5 ⟨rfl, o5⟩))
              go_meet
              exact ⟨true, rfl, by simp [hbad], o5⟩
          case rest =>
            obtain ⟨wC, hwC⟩ : ∃ x, x = wc := ⟨wc, rfl⟩
            subst hwC
            obtain ⟨r, rfl, hr, hoC⟩ := hcut
            have HoC := Lib.hid hoC
            cases r with
            | true =>
              have hone := Lib.hid (Hk1.out Hbt.out Hall.out (hr.1 rfl))
              clear hr d1 d2 d3
              go_wp2_with fail
              go_ret
              exact ⟨(by rw [hone.out]; rfl), Oa.out.trans (ho.trans hoC)⟩
            | false =>
              have Hal0 := Lib.hid (Hal.out Hbt.out Hall.out fun k => by have := hr.2 k; cases this)
              clear hr d1 d2 d3 Hal Hk1 Hk90 Hk91 HRi' HOr' HRi HOr
              cases i with
              | zero =>
                have hone := Lib.hid (Hz.out Hal0.out)
                go_wp2_with fail
                go_ret
                exact ⟨(by rw [hone.out]; rfl), Oa.out.trans (ho.trans hoC)⟩
              | succ j =>
                obtain ⟨o, hoj⟩ : ∃ o, l[j]? = some o := ⟨_, List.getElem?_eq_getElem (by omega)⟩
                obtain ⟨x2, y2, x3, y3, hcs, _, _⟩ := HE.out j o hoj
                have hOo := Oa.out.trans (ho.trans hoC)
                have c0 : ∀ V, Old wC V → V.cell? ⟨b, off + j * 4, none⟩ = some (.string o.term) := fun V k => (hcs V (hOo.trans k)).1
                have c1 : ∀ V, Old wC V → V.cell? ⟨b, off + j * 4 + 1, none⟩ = some (.string o.sub) := fun V k => (hcs V (hOo.trans k)).2.1
                have c2' : ∀ V, Old wC V → V.cell? ⟨b, off + j * 4 + 2, none⟩ = some (.slice x2 o.topics.length y2) := fun V k => (hcs V (hOo.trans k)).2.2.1
                have c3' : ∀ V, Old wC V → V.cell? ⟨b, off + j * 4 + 3, none⟩ = some (.slice x3 o.sees.length y3) := fun V k => (hcs V (hOo.trans k)).2.2.2
                obtain ⟨oz1, oz2, oz3, oz4, _⟩ := Hsz.out o (List.mem_of_getElem? hoj)
                have HL := Lib.hid (fun V => RLess_any o.term o.sub e.term e.sub V oz1 oz2 hz1 hz2 oz3 oz4 hz3 hz4)
                have HFo := Lib.hid (fun V => RFold_any o.term V oz1)
                have HFe := Lib.hid (fun V => RFold_any e.term V hz1)
                have Hok := Lib.hid (fun h => oneK_pair Hal0.out hoj h)
                have Hbad := Lib.hid (fun h => oneK_form Hal0.out hoj h)
                have Hp : Hid (pairK o e ↔ cmpP (foldS o.term, foldS o.sub) (foldS e.term, foldS e.sub) < 0 ∧ ¬ (foldS o.term = foldS e.term ∧ ¬ o.term = e.term)) := Lib.hid Iff.rfl
                have hw1 : IntKind.i64.wrap (((j + 1 : Nat) : Int) - 1) = (j : Int) := by rw [show ((j + 1 : Nat) : Int) - 1 = (j : Int) from by omega]; exact IntWalk.i64_in _ (by omega)
                have hw2 : IntKind.i64.wrap ((j : Int) + 1 - 1) = (j : Int) := by rw [show (j : Int) + 1 - 1 = (j : Int) from by omega]; exact IntWalk.i64_in _ (by omega)
                have hj1 : (j : Int) < l.length := by omega
                have hji : ¬ (j : Int) + 1 = 0 := by omega
                have e0 := fun V (k : Old wC V) => D0.out V (ho.trans (hoC.trans k))
                have e1 := fun V (k : Old wC V) => D1.out V (ho.trans (hoC.trans k))
                clear hcs hoj D0 D1 D2 D3 Hz HE Hsz He
                go_upto_region 15 with fail
                have oo : Old wC (wC.alloc (.cells #[.string o.term, .string o.sub, .slice x2 o.topics.length y2, .slice x3 o.sees.length y3] 45)) := (Old.refl wC).alloc _
                have f0 := later (show (wC.alloc (.cells #[.string o.term, .string o.sub, .slice x2 o.topics.length y2, .slice x3 o.sees.length y3] 45)).cell? ⟨wC.heap.size, 0, none⟩ = some (.string o.term) by simp [go_sem])
                have f1 := later (show (wC.alloc (.cells #[.string o.term, .string o.sub, .slice x2 o.topics.length y2, .slice x3 o.sees.length y3] 45)).cell? ⟨wC.heap.size, 1, none⟩ = some (.string o.sub) by simp [go_sem])
                have e0' := fun V (k : Old (wC.alloc (.cells #[.string o.term, .string o.sub, .slice x2 o.topics.length y2, .slice x3 o.sees.length y3] 45)) V) => e0 V (oo.trans k)
                have e1' := fun V (k : Old (wC.alloc (.cells #[.string o.term, .string o.sub, .slice x2 o.topics.length y2, .slice x3 o.sees.length y3] 45)) V) => e1 V (oo.trans k)
                have hOD := Lib.hid (hOo.trans oo)
                generalize wC.alloc (.cells #[.string o.term, .string o.sub, .slice x2 o.topics.length y2, .slice x3 o.sees.length y3] 45) = wD at *
                generalize wC.heap.size = g10 at *
                generalize hcp : cmpP (foldS o.term, foldS o.sub) (foldS e.term, foldS e.sub) = cp at *
                generalize foldS o.term = fo at *
                generalize foldS e.term = fe at *
                clear c0 c1 c2' c3' e0 e1 oo hcp
                by_cases hcp : 0 ≤ cp
                · have hone := Lib.hid (Hbad.out fun k => by have := (Hp.out.1 k).1; omega)
                  refine wp_region_old (Old.refl _) (by kernel_rfl) (by kernel_rfl) ?_
                  repeat (go_big_quiet_step (with_reducible exact Calls.in_old (HL.out _)))
                  refine wpQuiet_nil ?_
                  rintro ⟨wq, hq⟩
                  dsimp only
                  go_wp2_with fail
                  go_ret
                  exact ⟨(by rw [hone.out]; rfl), hOD.out.trans hq⟩
                · by_cases hte : o.term = e.term
                  · have htb := str_bnn hte
                    have htq := str_eqt hte
                    have hone := Lib.hid (Hok.out (Hp.out.2 ⟨by omega, fun k => k.2 hte⟩))
                    clear hte
                    refine wp_region_old (Old.refl _) (by kernel_rfl) (by kernel_rfl) ?_
                    repeat (go_big_quiet_step (with_reducible exact Calls.in_old (HL.out _)))
                    refine wpQuiet_nil ?_
                    rintro ⟨wq, hq⟩
                    dsimp only
                    go_wp2_with fail
                    go_ret
                    exact ⟨(by rw [hone.out]; rfl), hOD.out.trans hq⟩
                  · have htb := str_bne hte
                    have htq := str_eqf hte
                    by_cases hff : fo = fe
                    · have hfb : (fo.toList == fe.toList) = true := by rw [str_beq]; simpa using hff
                      have hone := Lib.hid (Hbad.out fun k => (Hp.out.1 k).2 ⟨hff, hte⟩)
                      clear hte hff
                      refine wp_region_old (Old.refl _) (by kernel_rfl) (by kernel_rfl) ?_
                      repeat (go_big_quiet_step (first | with_reducible exact Calls.in_old (HL.out _) | with_reducible exact Calls.in_old (HFo.out _) | with_reducible exact Calls.in_old (HFe.out _)))
                      refine wpQuiet_nil ?_
                      rintro ⟨wq, hq⟩
                      dsimp only
                      go_wp2_with fail
                      go_ret
                      exact ⟨(by rw [hone.out]; rfl), hOD.out.trans hq⟩
                    · have hfb : (fo.toList == fe.toList) = false := by rw [str_beq]; simpa using hff
                      have hone := Lib.hid (Hok.out (Hp.out.2 ⟨by omega, fun k => hff k.1⟩))
                      clear hte hff
                      refine wp_region_old (Old.refl _) (by kernel_rfl) (by kernel_rfl) ?_
                      repeat (go_big_quiet_step (first | with_reducible exact Calls.in_old (HL.out _) | with_reducible exact Calls.in_old (HFo.out _) | with_reducible exact Calls.in_old (HFe.out _)))
                      refine wpQuiet_nil ?_
                      rintro ⟨wq, hq⟩
                      dsimp only
                      go_wp2_with fail
                      go_ret
                      exact ⟨(by rw [hone.out]; rfl), hOD.out.trans hq⟩
end Go.Proofs.YtohngjkedhpikaaGreatDoor
/-
  KEYWORD, RC: the document's Check.
-/
namespace Go.Proofs.YtohngjkedhpikaaGreatDoor
open Go.RowKit Go.Maps
attribute [local go_sem] Old.refl Old.alloc Old.drew Old.setCell OldW.old

def RetC9 (l : List En) (t : Int) (e : Ending) : Prop := ∃ a c : Int, e = .returned (.tuple #[.int .i64 a, .int .i64 c]) ∧ CheckK l t a c
theorem has_any {l : List En} {t : ByteArray} : (l.any fun e => decide (foldS e.term = t)) = true ↔ hasL l t := by
  rw [List.any_eq_true]
  constructor
  · rintro ⟨e, he, h⟩; exact ⟨e, he, by simpa using h⟩
  · rintro ⟨e, he, h⟩; exact ⟨e, he, by simpa using h⟩
theorem holds_mem {O : List ByteArray} {x : ByteArray} : (O.any fun y => decide (y = x)) = true ↔ x ∈ O := by
  rw [List.any_eq_true]
  constructor
  · rintro ⟨y, hy, h⟩; have h := of_decide_eq_true h; exact h ▸ hy
  · intro h; exact ⟨x, h, by simp⟩
set_option maxRecDepth 100000 in
set_option maxHeartbeats 6400000 in
theorem RCheck_any (v : Value) (l : List En) (topics : Int) (w : World) (hv : Ents w v l) (hl : l.length ≤ 10000) (hU : (l.flatMap En.sees).length ≤ 1000000)
    (hsz : ∀ e ∈ l, e.term.size ≤ 4194304 ∧ e.sub.size ≤ 4194304 ∧ (foldS e.term).size ≤ 4194304 ∧ (foldS e.sub).size ≤ 4194304 ∧ ∀ x ∈ e.sees, x.size ≤ 4194304 ∧ (foldS x).size ≤ 4194304) :
    Calls Tryz.prog 25 #[v, .int .i64 topics] w fun e w' => RetC9 l topics e ∧ Old w w' := by
  obtain ⟨sa, cap, rfl, hc1, hc2⟩ := Seqs.form hv
  obtain ⟨b, off, hea, heat⟩ := Ents.open hv
  have Hea := Lib.hid hea
  have Heat := Lib.hid heat
  have Hsz := Lib.hid hsz
  have H1 := Lib.hid (fun (i : Nat) (e : En) (he : l[i]? = some e) V (o : Old w V) => ROne_any _ l i e topics V (hv.old o) he hsz)
  have HH := Lib.hid (fun (t : ByteArray) V (o : Old w V) => RHas_any _ l t V (hv.old o) (fun e he => (hsz e he).1))
  have HR := Lib.hid (fun (a : ByteArray) V (o : Old w V) => RReach_any _ l a V (hv.old o) hU (fun e he => ⟨(hsz e he).1, (hsz e he).2.2.1, (hsz e he).2.2.2.2⟩))
  have hlong : ¬ 10000 < l.length := by omega
  have Hone := Lib.hid (fun (i : Nat) (e : En) (h1 : l[i]? = some e) (h2 : ¬ oneK l topics i e = 0) (h3 : ∀ (j : Nat) (o : En), j < i → l[j]? = some o → oneK l topics j o = 0) => CheckK_one hlong h1 h2 h3)
  have Hsee := Lib.hid (fun (h0 : ∀ (j : Nat) (o : En), l[j]? = some o → oneK l topics j o = 0) (i k : Nat) (e : En) (s : ByteArray) (h1 : l[i]? = some e) (h2 : e.sees[k]? = some s) (h3 : ¬ seeK l e s = 0) h4 h5 => CheckK_see hlong h0 h1 h2 h3 h4 h5)
  have Hok := Lib.hid (fun h0 h1 => CheckK_ok (l := l) (t := topics) hlong h0 h1)
  clear hv hea heat hsz hU
  go_enter Tryz.func25, Tryz.ntmps25
  go_upto_region 4 with fail
  go_loopw [18] (fun iv wx => ∃ i : Nat, iv = .int .i64 i ∧ i ≤ l.length ∧ (∀ (j : Nat) (o : En), j < i → l[j]? = some o → oneK l topics j o = 0) ∧ Old w wx) (fun iv _ => l.length - (intOf iv).toNat)
  case atStart => exact ⟨0, rfl, Nat.zero_le _, fun j o hj => absurd hj (Nat.not_lt_zero j), Old.refl _⟩
  case round =>
    obtain ⟨i, rfl, hi, hdone, ho⟩ := hrel
    have Hdone := Lib.hid hdone
    clear hdone
    by_cases hlt : i < l.length
    · have hi1 : (i : Int) < l.length := by omega
      obtain ⟨e, he⟩ : ∃ e, l[i]? = some e := ⟨_, List.getElem?_eq_getElem hlt⟩
      have H1' := Lib.hid (H1.out i e he wr ho)
      by_cases hk : oneK l topics i e = 0
      · rw [hk] at H1'
        have Hnx : Hid (∀ (j : Nat) (o : En), j < i + 1 → l[j]? = some o → oneK l topics j o = 0) := Lib.hid fun j o hj h => by
          rcases Nat.lt_or_ge j i with h2 | h2
          · exact Hdone.out j o h2 h
          · obtain rfl : j = i := by omega
            obtain rfl := Option.some.inj (he.symm.trans h)
            exact hk
        clear he hk
        go_wp2_with (go_at_call 66; (with_reducible refine H1'.out.mono ?_); rintro z w5 ⟨rfl, o5⟩)
        go_roundw
        case rel => exact ⟨i + 1, by go_num, by omega, Hnx.out, ho.trans o5⟩
        case measure => simp [intOf]; omega
      · have HK := Lib.hid (Hone.out i e he hk Hdone.out)
        generalize oneK l topics i e = c at *
        clear he
        go_wp2_with (go_at_call 66; (with_reducible refine H1'.out.mono ?_); rintro z w5 ⟨rfl, o5⟩)
        go_ret2
        exact ⟨⟨i, c, rfl, HK.out⟩, ho.trans o5⟩
    · obtain rfl : i = l.length := by omega
      have hi1 : ¬ (l.length : Int) < l.length := by omega
      have Hall : Hid (∀ (j : Nat) (o : En), l[j]? = some o → oneK l topics j o = 0) := Lib.hid fun j o h => Hdone.out j o (List.getElem?_eq_some_iff.1 h).1 h
      have Ho := Lib.hid ho
      clear Hdone H1 Hone ho
      go_upto_region 11 with fail
      go_loopw [32] (fun iv wx => ∃ i : Nat, iv = .int .i64 i ∧ i ≤ l.length ∧ (∀ (j : Nat) (o : En) (m : Nat) (u : ByteArray), j < i → l[j]? = some o → o.sees[m]? = some u → seeK l o u = 0) ∧ Old w wx) (fun iv _ => l.length - (intOf iv).toNat)
      case atStart => exact ⟨0, rfl, Nat.zero_le _, fun j o m u hj => absurd hj (Nat.not_lt_zero j), Ho.out⟩
      case round =>
        clear Ho
        obtain ⟨i, rfl, hi, hdone, ho⟩ := hrel
        have Hdone := Lib.hid hdone
        have Ho := Lib.hid ho
        clear hdone
        by_cases hlt : i < l.length
        · have hi1 : (i : Int) < l.length := by omega
          obtain ⟨e, he⟩ : ∃ e, l[i]? = some e := ⟨_, List.getElem?_eq_getElem hlt⟩
          obtain ⟨a2, c2, a3, c3, hcs, _, hts⟩ := Heat.out i e he
          obtain rfl := Hea.out (by omega)
          have C0 := Lib.hid (fun V (o : Old w V) => (hcs V o).1)
          have c3' : ∀ V, Old wr V → V.cell? ⟨b, off + i * 4 + 3, none⟩ = some (.slice a3 e.sees.length c3) := fun V o => (hcs V (ho.trans o)).2.2.2
          have hsl : e.sees.length ≤ 9223372036854775807 := by
            obtain ⟨_, _, _, h1, h2⟩ := hts.form
            omega
          obtain ⟨hz1, _, hz3, _, hz5⟩ := Hsz.out e (List.mem_of_getElem? he)
          have Hz5 := Lib.hid hz5
          have HFe := Lib.hid (fun V => RFold_any e.term V hz1)
          obtain ⟨bt, ot, hat3, htx⟩ := hts.at1
          have Hat3 := Lib.hid hat3
          have Htx := Lib.hid htx
          have He := Lib.hid he
          clear hcs hts he hz5 hat3 htx
          go_upto_region 14 with fail
          go_loopw [41] (fun kv wx => ∃ k : Nat, kv = .int .i64 k ∧ k ≤ e.sees.length ∧ (∀ (m : Nat) (u : ByteArray), m < k → e.sees[m]? = some u → seeK l e u = 0) ∧ Old w wx) (fun kv _ => e.sees.length - (intOf kv).toNat)
          case atStart => exact ⟨0, rfl, Nat.zero_le _, fun m u hm => absurd hm (Nat.not_lt_zero m), Ho.out⟩
          case round =>
            clear c3' ho Ho
            obtain ⟨k, rfl, hk, hd2, ho⟩ := hrel
            have Hd2 := Lib.hid hd2
            have Ho := Lib.hid ho
            clear hd2
            by_cases hlt3 : k < e.sees.length
            · have hk1 : (k : Int) < e.sees.length := by omega
              obtain ⟨s, hs⟩ : ∃ s, e.sees[k]? = some s := ⟨_, List.getElem?_eq_getElem hlt3⟩
              obtain rfl := Hat3.out (by omega)
              have ck := Htx.out k s hs wr ho
              have hs1 := (Hz5.out s (List.mem_of_getElem? hs)).1
              have HFs := Lib.hid (fun V => RFold_any s V hs1)
              have Hs := Lib.hid hs
              have Hbad := Lib.hid (fun h => Hsee.out Hall.out i k e s He.out hs h Hdone.out Hd2.out)
              have Hnx : Hid (seeK l e s = 0 → ∀ (m : Nat) (u : ByteArray), m < k + 1 → e.sees[m]? = some u → seeK l e u = 0) := Lib.hid fun h m u hm hu => by
                rcases Nat.lt_or_ge m k with h2 | h2
                · exact Hd2.out m u h2 hu
                · obtain rfl : m = k := by omega
                  obtain rfl := Option.some.inj (hs.symm.trans hu)
                  exact h
              have H91 := Lib.hid (fun h => seeK_none (l := l) (e := e) (s := s) h)
              have H92 := Lib.hid (fun h h2 => seeK_ring (l := l) (e := e) (s := s) h h2)
              have H00 := Lib.hid (fun h h2 => seeK_ok (l := l) (e := e) (s := s) h h2)
              have HHt := Lib.hid (HH.out (foldS s))
              have HRt := Lib.hid (HR.out (foldS s))
              have Hrx := Lib.hid (fun O h => IsReach.rch (E := edgeL l) (a := foldS s) (O := O) h (b := foldS e.term))
              have Hhi := Lib.hid (has_any (l := l) (t := foldS s))
              clear hs
              generalize foldS s = tt at *
              generalize foldS e.term = frm at *
              generalize seeK l e s = sk at *
              generalize (l.any fun e => decide (foldS e.term = tt)) = hb at *
              have c0 : ∀ V, Old wr V → V.cell? ⟨b, off + i * 4, none⟩ = some (.string e.term) := fun V o => C0.out V (ho.trans o)
              go_upto_region 16 with fail
              clear ck
              refine wp_region_old (Old.refl _) (by kernel_rfl) (by kernel_rfl) ?_
              repeat (go_big_quiet_step (first | with_reducible exact Calls.in_old (HFs.out _) | with_reducible exact Calls.in_old (HFe.out _)))
              refine wpQuiet_nil ?_
              rintro ⟨wq, hq⟩
              dsimp only
              have hoq := ho.trans hq
              clear c0
              by_cases hh : hasL l tt
              · have hbt := Hhi.out.2 hh
                subst hbt
                go_upto_region 19 with (go_at_call 67; (with_reducible refine (HHt.out _ hoq).mono ?_); rintro z w5 ⟨rfl, o5⟩)
                have ho5 := hoq.trans o5
                clear HHt
                go_cut [67] (fun u wy => ∃ r : Bool, u = .bool r ∧ (r = true ↔ Rch (edgeL l) tt frm) ∧ Old w5 wy)
                case first =>
                  by_cases htf : tt = frm
                  · have htb := str_eqt htf
                    have hrch : Rch (edgeL l) tt frm := htf ▸ .refl
                    clear HRt htf
                    go_wp2_with fail
                    go_meet
                    exact ⟨true, rfl, ⟨fun _ => hrch, fun _ => rfl⟩, Old.refl _⟩
                  · have htb := str_eqf htf
                    go_wp2_with (first
                      | (go_at_call 68; (with_reducible refine (HRt.out _ ho5).mono ?_); rintro z w7 ⟨⟨u7, O, rfl, hO, hown7⟩, o7⟩; have HHo := Lib.hid (Holds_any u7 O frm w7 (Txts.of_recs hown7.recs)); have HOO := Lib.hid hO; clear hO hown7)
                      | (go_at_call 22; (with_reducible refine HHo.out.mono ?_); rintro z w8 ⟨rfl, o8⟩; have o78 := o7.trans o8))
                    go_meet
                    refine ⟨_, rfl, ?_, o78⟩
                    rw [holds_mem, ← Hrx.out O HOO.out]
                    exact ⟨.inr, fun h => h.resolve_left htf⟩
                case rest =>
                  obtain ⟨wC, hwC⟩ : ∃ x, x = wc := ⟨wc, rfl⟩
                  subst hwC
                  obtain ⟨r, rfl, hr, hoC⟩ := hcut
                  have Hr := Lib.hid hr
                  have hoC' := ho5.trans hoC
                  clear hr
                  cases r with
                  | true =>
                    have h92 := H92.out hh (Hr.out.1 (by first | trivial | rfl))
                    have HK := Lib.hid (Hbad.out (by rw [h92]; decide))
                    subst h92
                    go_wp2_with fail
                    go_ret2
                    exact ⟨⟨i, 92, rfl, HK.out⟩, hoC'⟩
                  | false =>
                    have h00 := H00.out hh (fun h => by have := Hr.out.2 h; revert this; simp)
                    have Hn := Lib.hid (Hnx.out h00)
                    go_wp2_with fail
                    go_roundw
                    case rel => exact ⟨k + 1, by go_num, by omega, Hn.out, hoC'⟩
                    case measure => simp [intOf]; omega
              · have hbf : hb = false := by cases hb with
                  | false => rfl
                  | true => exact absurd (Hhi.out.1 rfl) hh
                subst hbf
                have h91 := H91.out hh
                have HK := Lib.hid (Hbad.out (by rw [h91]; decide))
                subst h91
                go_wp2_with (go_at_call 67; (with_reducible refine (HHt.out _ hoq).mono ?_); rintro z w5 ⟨rfl, o5⟩)
                go_ret2
                exact ⟨⟨i, 91, rfl, HK.out⟩, hoq.trans o5⟩
            · obtain rfl : k = e.sees.length := by omega
              have hk1 : ¬ (e.sees.length : Int) < e.sees.length := by omega
              have Hn : Hid (∀ (j : Nat) (o : En) (m : Nat) (u : ByteArray), j < i + 1 → l[j]? = some o → o.sees[m]? = some u → seeK l o u = 0) := Lib.hid fun j o m u hj ho' hu => by
                rcases Nat.lt_or_ge j i with h2 | h2
                · exact Hdone.out j o m u h2 ho' hu
                · obtain rfl : j = i := by omega
                  obtain rfl := Option.some.inj (He.out.symm.trans ho')
                  exact Hd2.out m u (List.getElem?_eq_some_iff.1 hu).1 hu
              go_wp2_with fail
              go_roundw
              case rel => exact ⟨i + 1, by go_num, by omega, Hn.out, ho⟩
              case measure => simp [intOf]; omega
        · obtain rfl : i = l.length := by omega
          have hi1 : ¬ (l.length : Int) < l.length := by omega
          have HK := Lib.hid (Hok.out Hall.out fun j o m u hj hu => Hdone.out j o m u (List.getElem?_eq_some_iff.1 hj).1 hj hu)
          go_wp2_with fail
          go_ret2
          exact ⟨⟨0, 0, rfl, HK.out⟩, ho⟩
end Go.Proofs.YtohngjkedhpikaaGreatDoor
