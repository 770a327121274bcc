/-
  OPENING ARGUMENTS, over no program: slices of records, each read by its own decoder.
-/
import Derived.Test.YtpifkinlaicliaaDoorZOpen
import Derived.Test.YtpifkinlaicliaaDoorZRecs
import Derived.Deep.Slices
import Derived.Test.YtpifkinlaicliaaDoorZTocFault
import Derived.Test.YtpifkinlaicliaaDoorProg
import Derived.SizedLaws
import Derived.Test.YtpifkinlaicliaaDoorCards
import Derived.Test.YtpifkinlaicliaaDoorTie
import Derived.Test.YtpifkinlaicliaaDoorZNamesCollectsWalk
import Derived.Test.YtpifkinlaicliaaDoorZNums
import Derived.Lib.LaidTab
import Derived.Test.YtpifkinlaicliaaDoorZRInts
import Derived.ShutString
import Derived.ChangeOld
import Derived.Carry
namespace Go.Proofs.YtpifkinlaicliaaDoor
open Go.RowKit Go.ChangeShapes Go.WideShapes
section
variable {H : Type} {enc : TypeId × Value → H} {P : Program} {W : World} {base : Nat} {sp : Nat → Bool} {held : Bool}
theorem open_recs {α : Type} {c : Enc α} {Good : α → DataW H → Prop} {t e : TypeId} {a : Option Addr} {len cap : Nat} {d : DataW H} {ps : List MemPlace} (ht : P.underlying t = some (.slice e)) (ce : P.cellsOf e = c.k) (hk : 0 < c.k)
    (hdec : ∀ cs n y, cs.length = c.k → DataW.trod enc P W base sp held n e cs = some y → ∃ r, cs = c.enc r ∧ Good r y.1)
    (h : DataW.Trod enc P W base sp held t (.slice a len cap) d ps) :
    ∃ l : List α, Recs c W (.slice a len cap) l ∧ Long d l.length ∧ ∀ (i : Nat) (x : α), l[i]? = some x → ∃ y, Good x y ∧ ∃ el spr, d = .slice el spr ∧ el[i]? = some y := by
  obtain ⟨fuel, hf⟩ := h
  rcases Deep.open_slice ht hf with ⟨hcs, hx⟩ | ⟨x, l, c', m, n, D, Pl, hcs, _, hl, hm, hmm, hx, hall⟩
  · simp [Value.cells] at hcs
    obtain ⟨rfl, rfl, rfl⟩ := hcs
    simp at hx
    exact ⟨[], Recs.nil c W, .inl ⟨hx.1, rfl⟩, fun i x h => by simp at h⟩
  · simp [Value.cells] at hcs
    obtain ⟨rfl, rfl, rfl⟩ := hcs
    have hlm : len ≤ m := by rw [hmm]; split <;> omega
    obtain ⟨rfl, _⟩ := Prod.mk.inj hx
    have each : ∀ i, i < len → ∃ r : α, (∀ j u, (c.enc r)[j]? = some u → W.cell? (x.add (i * c.k + j)) = some u) ∧ Good r (D i) := fun i hi => by
      obtain ⟨cs', h1, h2⟩ := hall i (by omega)
      rw [ce] at h1
      obtain ⟨_, hlen, hcell⟩ := World.cells?_some h1
      obtain ⟨r, rfl, hg⟩ := hdec cs' n _ hlen h2
      refine ⟨r, fun j u hu => ?_, hg⟩
      have hj : j < c.k := by rw [← c.len r]; exact (List.getElem?_eq_some_iff.1 hu).1
      have := hcell j hj
      rw [hu, Deep.add_add] at this
      exact this
    by_cases hlen0 : len = 0
    · subst hlen0
      exact ⟨[], ⟨some x, cap, 0, 0, rfl, by simp, by simpa [maxLen] using hm, fun h => absurd h (Nat.lt_irrefl 0), fun j u hu => by simp [Enc.all] at hu⟩, .inr ⟨_, _, rfl, by simp⟩, fun i x h => by simp at h⟩
    · have r0 : α := (each 0 (by omega)).choose
      let q : Nat → α := fun i => if hi : i < len then (each i hi).choose else r0
      have hq : ∀ i, i < len → (∀ j u, (c.enc (q i))[j]? = some u → W.cell? (x.add (i * c.k + j)) = some u) ∧ Good (q i) (D i) := fun i hi => by
        have := (each i hi).choose_spec
        simp only [q, dif_pos hi]
        exact this
      have hlen : ((List.range len).map q).length = len := by simp
      have hx0 : x = ⟨x.block, x.off, none⟩ := by
        have hz : (c.enc (q 0))[0]? ≠ none := fun e => by
          have := List.getElem?_eq_none_iff.1 e
          rw [c.len] at this; omega
        obtain ⟨u, hu⟩ := Option.ne_none_iff_exists'.1 hz
        have h0 := (hq 0 (by omega)).1 0 u hu
        rw [Nat.zero_mul] at h0
        exact addr_of_cell h0
      refine ⟨(List.range len).map q, ⟨some x, cap, x.block, x.off, by rw [hlen], by omega, by simpa [maxLen] using hm, fun _ => congrArg some hx0, fun j u hu => ?_⟩, .inr ⟨_, _, rfl, by simp⟩, fun i y hy => ?_⟩
      · have hj := (List.getElem?_eq_some_iff.1 hu).1
        rw [Enc.all_length, hlen] at hj
        have hd : j / c.k < len := (Nat.div_lt_iff_lt_mul hk).2 hj
        have hm2 : j % c.k < c.k := Nat.mod_lt _ hk
        have hjj : j / c.k * c.k + j % c.k = j := by rw [Nat.mul_comm]; exact Nat.div_add_mod j c.k
        have hget : ((List.range len).map q)[j / c.k]? = some (q (j / c.k)) := by rw [List.getElem?_map, List.getElem?_range hd]; rfl
        obtain ⟨u', hu'⟩ : ∃ u', (c.enc (q (j / c.k)))[j % c.k]? = some u' := ⟨_, List.getElem?_eq_getElem (by rw [c.len]; exact hm2)⟩
        have := Enc.all_at hget hu'
        rw [hjj, hu] at this
        obtain rfl := Option.some.inj this
        have h1 := (hq _ hd).1 _ _ hu'
        rw [hjj, hx0, Addr.add_lit] at h1
        exact later h1
      · have hi : i < len := by have := (List.getElem?_eq_some_iff.1 hy).1; rwa [hlen] at this
        rw [List.getElem?_map, List.getElem?_range hi] at hy
        obtain rfl := Option.some.inj hy
        exact ⟨D i, (hq i hi).2, _, _, rfl, by rw [List.getElem?_map, List.getElem?_range hi]; rfl⟩
end
end Go.Proofs.YtpifkinlaicliaaDoor
/-
  OPENING SOURCES: their topics, each read by its own decoder; how long their topics are.
-/




namespace Go.Proofs.YtpifkinlaicliaaDoor
open Go.RowKit Go.ChangeShapes Go.WideShapes
section
variable {H : Type} {enc : TypeId × Value → H} {P : Program} {W : World} {base : Nat} {sp : Nat → Bool} {held : Bool}
theorem sl_of {t e : TypeId} {n : Nat} {c : Value} {y : DataW H × List MemPlace} (ht : P.underlying t = some (.slice e)) (h : DataW.trod enc P W base sp held n t [c] = some y) : ∃ s : Sl, c = s.v := by
  rcases Deep.open_slice ht h with ⟨hcs, _⟩ | ⟨x', l', c', _, _, _, _, hcs, _⟩
  · exact ⟨(none, 0, 0), (List.cons.inj hcs).1⟩
  · exact ⟨(some x', l', c'), (List.cons.inj hcs).1⟩
theorem weightsAll_at {e : TypeId} {n : Nat} {y : DataW H} : ∀ {el : List (DataW H)} {i : Nat}, el[i]? = some y → n ∈ y.weights P e → n ∈ DataW.weightsAll P e el
  | [], _, h, _ => by simp at h
  | x :: r, 0, h, hn => by
    simp only [List.getElem?_cons_zero, Option.some.injEq] at h
    subst h
    rw [DataW.weightsAll]
    exact List.mem_append_left _ hn
  | x :: r, i + 1, h, hn => by
    simp only [List.getElem?_cons_succ] at h
    rw [DataW.weightsAll]
    exact List.mem_append_right _ (weightsAll_at h hn)
theorem open_seqs2 {α β : Type} {c : Enc β} {R : World → β → α → Prop} {B : α → DataW H → Prop} {t e : TypeId} {a : Option Addr} {len cap : Nat} {d : DataW H} {ps : List MemPlace} (ht : P.underlying t = some (.slice e)) (ce : P.cellsOf e = c.k) (hk : 0 < c.k)
    (hdec : ∀ cs n y, cs.length = c.k → DataW.trod enc P W base sp held n e cs = some y → ∃ r x, cs = c.enc r ∧ R W r x ∧ B x y.1)
    (h : DataW.Trod enc P W base sp held t (.slice a len cap) d ps) :
    ∃ l : List α, Seqs c R W (.slice a len cap) l ∧ Long d l.length ∧ ∀ (i : Nat) (x : α), l[i]? = some x → ∃ y, B x y ∧ ∃ el spr, d = .slice el spr ∧ el[i]? = some y := by
  obtain ⟨t, h1, h2, h3⟩ := open_recs (c := c) (Good := fun r y => ∃ x, R W r x ∧ B x y) ht ce hk (fun cs n y hl hy => by
    obtain ⟨r, x, e, hR, hB⟩ := hdec cs n y hl hy
    exact ⟨r, e, x, hR, hB⟩) h
  have each : ∀ i, i < t.length → ∃ x : α, (∀ r, t[i]? = some r → R W r x) ∧ ∃ y, B x y ∧ ∃ el spr, d = .slice el spr ∧ el[i]? = some y := fun i hi => by
    obtain ⟨y, ⟨x, hR, hB⟩, el, spr, hd, hy⟩ := h3 i t[i] (List.getElem?_eq_getElem hi)
    refine ⟨x, fun r hr => ?_, y, hB, el, spr, hd, hy⟩
    rw [List.getElem?_eq_getElem hi] at hr
    obtain rfl := Option.some.inj hr
    exact hR
  by_cases h0 : t.length = 0
  · have : t = [] := List.eq_nil_of_length_eq_zero h0
    subst this
    exact ⟨[], ⟨[], h1, Both.nil⟩, h2, fun i x h => by simp at h⟩
  · have x0 : α := (each 0 (by omega)).choose
    let q : Nat → α := fun i => if hi : i < t.length then (each i hi).choose else x0
    have hq : ∀ i, i < t.length → (∀ r, t[i]? = some r → R W r (q i)) ∧ ∃ y, B (q i) y ∧ ∃ el spr, d = .slice el spr ∧ el[i]? = some y := fun i hi => by
      have := (each i hi).choose_spec
      simp only [q, dif_pos hi]
      exact this
    have hlen : ((List.range t.length).map q).length = t.length := by simp
    have hget : ∀ i y, ((List.range t.length).map q)[i]? = some y → i < t.length ∧ y = q i := fun i y hy => by
      have hi : i < t.length := by have := (List.getElem?_eq_some_iff.1 hy).1; rwa [hlen] at this
      rw [List.getElem?_map, List.getElem?_range hi] at hy
      exact ⟨hi, (Option.some.inj hy).symm⟩
    refine ⟨(List.range t.length).map q, ⟨t, h1, hlen.symm, fun i r y hr hy => ?_⟩, by rw [hlen]; exact h2, fun i y hy => ?_⟩
    · obtain ⟨hi, rfl⟩ := hget i y hy
      exact (hq i hi).1 r hr
    · obtain ⟨hi, rfl⟩ := hget i y hy
      exact (hq i hi).2
end
section
variable {H : Type} {enc : TypeId × Value → H} {W : World} {base : Nat} {sp : Nat → Bool} {held : Bool}
set_option maxRecDepth 10000 in
theorem open_tqs {a : Option Addr} {len cap : Nat} {d : DataW H} {ps : List MemPlace} (h : DataW.Trod enc Tryd.prog W base sp held 59 (.slice a len cap) d ps) :
    ∃ l : List Tq, Recs tqE W (.slice a len cap) l ∧ Long d l.length := by
  obtain ⟨l, h1, h2, _⟩ := open_recs (c := tqE) (Good := fun _ _ => True) Tryd.underlying59 (by kernel_rfl) (by decide) (fun cs n y hlen hy => by
    obtain ⟨xs, k, hk, hxy, _, hxl, hf⟩ := DataW.trod_struct Tryd.underlying66 hy
    have hlen : cs.length = 8 := hlen
    match xs, hxl, cs, hlen with
    | [y0, y1, y2, y3, y4, y5, y6, y7], _, [c0, c1, c2, c3, c4, c5, c6, c7], _ =>
      have g0 := hf 0 _ rfl
      have g1 := hf 1 _ rfl
      have g2 := hf 2 _ rfl
      have g3 := hf 3 _ rfl
      have g4 := hf 4 _ rfl
      have g5 := hf 5 _ rfl
      have g6 := hf 6 _ rfl
      have g7 := hf 7 _ rfl
      have k3 : Tryd.prog.cellsOf 3 = 1 := by kernel_rfl
      have k9 : Tryd.prog.cellsOf 9 = 1 := by kernel_rfl
      have k62 : Tryd.prog.cellsOf 62 = 1 := by kernel_rfl
      have k63 : Tryd.prog.cellsOf 63 = 1 := by kernel_rfl
      have k64 : Tryd.prog.cellsOf 64 = 1 := by kernel_rfl
      simp [k3, k9, k62, k63, k64] at g0 g1 g2 g3 g4 g5 g6 g7
      obtain ⟨a0, e0, _⟩ := DataW.trod_int Tryd.underlying3 g0
      obtain ⟨a1, e1, _⟩ := DataW.trod_string Tryd.underlying9 g1
      obtain ⟨a2, e2, _⟩ := DataW.trod_string Tryd.underlying9 g2
      obtain ⟨a3, e3, _⟩ := DataW.trod_int Tryd.underlying3 g3
      obtain ⟨a4, e4⟩ := sl_of Tryd.underlying62 g4
      obtain ⟨a5, e5⟩ := sl_of Tryd.underlying63 g5
      obtain ⟨a6, e6⟩ := sl_of Tryd.underlying64 g6
      obtain ⟨a7, e7, _⟩ := DataW.trod_int Tryd.underlying3 g7
      simp at e0 e1 e2 e3 e7
      subst e0; subst e1; subst e2; subst e3; subst e4; subst e5; subst e6; subst e7
      exact ⟨⟨a0, a1, a2, a3, a4, a5, a6, a7⟩, rfl, trivial⟩) h
  exact ⟨l, h1, h2⟩
theorem long_weight {d : DataW H} {n : Nat} (h : Long d n) : n = 0 ∨ ∃ m ∈ d.weights Tryd.prog 59, n ≤ m := by
  rcases h with ⟨_, rfl⟩ | ⟨el, spr, rfl, rfl⟩
  · exact .inl rfl
  · refine .inr ⟨(el.length + spr.length) * Tryd.prog.bytesOf 66, ?_, ?_⟩
    · simp [DataW.weights, Tryd.underlying59]
    · rw [show Tryd.prog.bytesOf 66 = 128 by kernel_rfl]; omega
set_option maxRecDepth 10000 in
theorem open_sqs {a : Option Addr} {len cap : Nat} {d : DataW H} {ps : List MemPlace} (h : DataW.Trod enc Tryd.prog W base sp held 52 (.slice a len cap) d ps)
    {ts : List TypeId} {ds : List (DataW H)} (hsz : (DataW.weightsEach Tryd.prog ts ds).all (· ≤ reachBytes) = true) {j : Nat} (ht : ts[j]? = some 52) (hd : ds[j]? = some d) :
    ∃ S : List (List Tq), Sqs W (.slice a len cap) S ∧ ∀ T ∈ S, T.length ≤ 140737488355328 := by
  obtain ⟨l, h1, _, h3⟩ := open_seqs2 (c := sqE) (R := SqR) (B := fun T y => T.length = 0 ∨ ∃ m ∈ y.weights Tryd.prog 61, T.length ≤ m) Tryd.underlying52 (by kernel_rfl) (by decide) (fun cs n y hlen hy => by
    obtain ⟨xs, k, hk, hxy, hy1, hxl, hf⟩ := DataW.trod_struct Tryd.underlying61 hy
    have hlen : cs.length = 2 := hlen
    match xs, hxl, cs, hlen with
    | [y0, y1], _, [c0, c1], _ =>
      have g0 := hf 0 _ rfl
      have g1 := hf 1 _ rfl
      have k58 : Tryd.prog.cellsOf 58 = 1 := by kernel_rfl
      have k59 : Tryd.prog.cellsOf 59 = 1 := by kernel_rfl
      simp [k58, k59] at g0 g1
      obtain ⟨a0, rfl⟩ := sl_of Tryd.underlying58 g0
      obtain ⟨⟨a1, n1, p1⟩, rfl⟩ := sl_of Tryd.underlying59 g1
      obtain ⟨T, hT, hl⟩ := open_tqs (enc := enc) (a := a1) (len := n1) (cap := p1) (d := y1.1) (ps := y1.2) ⟨_, g1⟩
      refine ⟨(a0, (a1, n1, p1)), T, rfl, hT, ?_⟩
      rcases long_weight hl with h | ⟨m, hm, hle⟩
      · exact .inl h
      · refine .inr ⟨m, ?_, hle⟩
        rw [hxy]
        simp only [DataW.weights, Tryd.underlying61, List.map_cons, List.map_nil, DataW.weightsEach, List.mem_append]
        exact .inr (.inl hm)) h
  refine ⟨l, h1, fun T hT => ?_⟩
  obtain ⟨i, hi, e⟩ := List.mem_iff_getElem.1 hT
  obtain ⟨y, hy, el, spr, rfl, hel⟩ := h3 i T (by rw [List.getElem?_eq_getElem hi, e])
  rcases hy with h | ⟨m, hm, hl⟩
  · omega
  · have hin : m ∈ DataW.weights Tryd.prog 52 (.slice el spr : DataW H) := by
      simp only [DataW.weights, Tryd.underlying52, List.mem_cons, List.mem_append]
      exact .inr (.inl (weightsAll_at hel hm))
    have h9 := List.all_eq_true.1 hsz _ (DataW.weights_mem_each ht hd m hin)
    have h8 : m ≤ reachBytes := by simpa using h9
    have h7 := reachBytes_lt
    omega
end
end Go.Proofs.YtpifkinlaicliaaDoor
/-
  NamesCollects: for every input it returns true and leaves what was as it was: no condition; the two tables of package utf8 that its row lists are tied to the program's text by the given tie.
-/









namespace Go.Proofs.YtpifkinlaicliaaDoor.namesCollects
open Go.ChangeShapes Go.WideShapes Go.ChangeAt Go.RowKit
open Go.ChangeMaps (open_string shut_string)
set_option linter.unusedVariables false

theorem own : ownKnob Tryd.prog.godebug = none := by kernel_rfl
theorem laidOut : laidOutB Tryd.prog = true := by kernel_rfl

theorem witness_row (os : Os) {H : Type} (enc : TypeId × Value → H) :
    (OpenSpec.ofChange Rows.namesCollectsSpec).preRow enc Tryd.prog Tryd.f8 Rows.namesCollectsRow.domain false Rows.namesCollectsRow.laid ((laidWorld os).forCall (fun _ _ => 0) ⟨#[], #[.slice none 0 0], []⟩).memory #[.slice none 0 0] := by
  have hw : (DataW.whole enc Tryd.prog ((laidWorld os).forCall (fun _ _ => 0) ⟨#[], #[.slice none 0 0], []⟩).memory Tryd.f8.params.toList (OpenSpec.ofChange Rows.namesCollectsSpec).vars false (#[.slice none 0 0] : Array Value).toList 8).map (fun x => (x.1, x.2.1)) =
      some ([.nil], []) := by kernel_rfl
  obtain ⟨⟨x1, x2, x3⟩, hx, hx1⟩ := Option.map_eq_some_iff.1 hw
  simp only [Prod.mk.injEq] at hx1
  obtain ⟨rfl, rfl⟩ := hx1
  exact OpenSpec.preRow_of_cond 8 hx (by kernel_rfl) (fun k hk => by cases hk) (by kernel_rfl) (laid_met os _)

set_option maxRecDepth 100000 in
set_option maxHeartbeats 2000000 in
theorem lifted (os : Os) (started : os.Started) (H : Type) (enc : TypeId × Value → H) (F : Stop.Interp) :
    ReturnsInHanded {} Tryd.checked os 8 .any ((OpenSpec.ofChange Rows.namesCollectsSpec).preRow enc Tryd.prog Tryd.f8 Rows.namesCollectsRow.domain false Rows.namesCollectsRow.laid) (((OpenSpec.ofChange Rows.namesCollectsSpec).at F).post enc Tryd.prog Tryd.f8 false true false false) := by
  refine returnsInHanded_of_row (C := Tryd.checked) (s := (OpenSpec.ofChange Rows.namesCollectsSpec)) own started (by kernel_rfl) Tryd.func8
    (witness_row_atRef (enc := enc) (C := Tryd.checked) false (laidWorld os) #[.slice none 0 0] rfl (by kernel_rfl) (by kernel_rfl) (by kernel_rfl) (witness_row os enc)) ?_
  intro W base args ds gs before hval0 hW _ hcond hsz0 hL _ _
  have hval : ∀ (j : Nat) t v, Tryd.f8.params[j]? = some t → args[j]? = some v → Value.okWide Tryd.prog W .any base t v := hval0
  have hW' := hW
  have hT : Tabs W := tabs_of hL (.tail _ (.head _)) (.head _)
  obtain ⟨p, q, hA0, hV, rfl, hfz, hnd⟩ := hW
  have hA : DataW.TrodAll enc Tryd.prog W 0 (fun _ => true) true Tryd.f8.params.toList args.toList ds p := hA0
  obtain ⟨rfl, rfl⟩ := trodVars_none hV
  have hsz : (DataW.weightsEach Tryd.prog Tryd.f8.params.toList ds).all (· ≤ reachBytes) = true := by
    have e1 : Tryd.f8.params.toList ++ (OpenSpec.ofChange Rows.namesCollectsSpec).bare.plain.varTypes Tryd.checked.prog = Tryd.f8.params.toList := List.append_nil _
    rw [e1, List.append_nil] at hsz0
    exact hsz0
  clear hsz0 hcond hL
  rw [Tryd.params8] at hA hval hsz
  obtain ⟨v0, vs0, d0, ds0, p0, q0, hargs, rfl, rfl, h0, r0⟩ := trodAll_cons hA
  obtain ⟨rfl, rfl, rfl⟩ := trodAll_nil r0
  obtain rfl : args = #[v0] := by cases args; simp_all
  obtain ⟨a0, len0, cap0, rfl⟩ := okWide_slice Tryd.underlying52 (hval 0 52 v0 rfl rfl)
  have k0 := h0
  have lt0 : ∀ x ∈ p0, x.block < W.heap.size := by obtain ⟨m, hm⟩ := k0; exact DataW.trod_lt m _ _ _ hm
  obtain ⟨l0, g0, u0⟩ := open_sqs h0 hsz (j := 0) rfl rfl
  clear hA0 hval0
  refine (Go.Proofs.YtpifkinlaicliaaDoor.namesCollects_row_walk W hT l0 _ g0 u0).mono fun e W' ⟨he, bel⟩ => ?_
  subst he
  exact ⟨_, rfl, _, _, _, [], _, [], hW', trodAll_mk1 (shut_bool Tryd.underlying4 _), (trodAll_cons_mk (Below.trod laidOut (by kernel_rfl) (of_decide_eq_true (by kernel_rfl)) k0 bel lt0) trodAll_mk0), rfl, bel.frame _, fun h => by cases h⟩

theorem said : Rows.NamesCollectsSaid :=
  OpenClaim.holds_of_cond 8 Tryd.f8 rfl rfl rfl rfl rfl rfl rfl ⟨rfl, rfl, rfl, rfl, rfl⟩ rfl rfl rfl rfl rfl (by kernel_rfl) Tryd.func8 (by kernel_rfl)
    (of_decide_eq_true (by kernel_rfl)) (by unfold Func.isWrapper; first | (rw [if_pos (by decide +kernel)]; kernel_rfl) | (rw [if_neg (by decide +kernel)]; exact ⟨rfl, rfl⟩))
    (fun os started H enc _ F => by rw [OpenClaim.pre_eq_preRow]; exact lifted os started H enc F)

theorem plain (f : FuncId) (fn : Func) (hf : Tryd.pinned.checked.prog.funcNamed Rows.namesCollectsRow.func = some f) (hfn : Tryd.pinned.checked.prog.funcs[f]? = some fn) :
    false = Tryd.pinned.checked.prog.looks [] ∧ ∀ (j : Nat) t, fn.params[j]? = some t → Tryd.pinned.checked.prog.wantsStandIn t = false := by
  obtain rfl : f = 8 := Option.some.inj ((show Tryd.prog.funcNamed Rows.namesCollectsRow.func = some 8 by kernel_rfl).symm.trans hf) |>.symm
  obtain rfl : fn = Tryd.f8 := (Option.some.inj (Tryd.func8.symm.trans hfn)).symm
  refine ⟨by kernel_rfl, fun j t ht => ?_⟩
  have hall : (Tryd.f8.params.all fun t => !Tryd.prog.wantsStandIn t) = true := by kernel_rfl
  have := Array.all_eq_true'.1 hall t (Array.mem_of_getElem? ht)
  exact (Bool.not_eq_eq_eq_not.mp this)

theorem proved : Rows.NamesCollectsCardSaid :=
  Claim7.holds_tied_plain_at .later [] _ _ _ _ said (fun _ h => by cases h) (by kernel_rfl) (fun _ h => by cases h) namesCollects_row_tie rfl ⟨rfl, rfl⟩ (by kernel_rfl) rfl plain (by kernel_rfl)
#print axioms proved
end Go.Proofs.YtpifkinlaicliaaDoor.namesCollects
