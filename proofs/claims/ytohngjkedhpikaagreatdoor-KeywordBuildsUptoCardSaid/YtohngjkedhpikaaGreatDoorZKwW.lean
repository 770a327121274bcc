/-
  KEYWORD, W: the ways being built: which rows they have; what is kept.
-/
import Derived.Test.YtohngjkedhpikaaGreatDoorZKwR
namespace Go.Proofs.YtohngjkedhpikaaGreatDoor
open Go.RowKit Go.Maps

/-- what stands in the ways' map -/
def wayV (V : ByteArray → Value) (L : ByteArray → List ByteArray) (t : ByteArray) : Option Value := if (L t).isEmpty then none else some (V t)
/-- the ways: V t is the row L t, of the call's own since w0 -/
structure WS (w0 w : World) (wb n : Nat) (V : ByteArray → Value) (L : ByteArray → List ByteArray) : Prop where
  mp : MapV Tryz.prog 9 Value.string w wb n (wayV V L)
  row : ∀ t, OwnS txE 9 w0 w (V t) (L t)
  nl : ∀ t, L t = [] → V t = .slice none 0 0
  ap : ∀ t u g, (V t).ownBlock = some g → (V u).ownBlock = some g → t = u
  small : ∀ t, ∀ s ∈ L t, s.size ≤ 4194304
  lo : wb < w0.heap.size
section
variable {w0 w W : World} {wb n : Nat} {V : ByteArray → Value} {L : ByteArray → List ByteArray}
theorem WS.kx {X : Nat → Prop} (h : WS w0 w wb n V L) (hk : KeptX X w W) (hX : ∀ g, X g → g < w0.heap.size ∧ g ≠ wb) : WS w0 W wb n V L :=
  ⟨h.mp.block (hk.block wb h.mp.lt fun x => (hX _ x).2 rfl), fun t => ownsRow_block (h.row t) fun g hg => hk.block g (World.ownsRow.lt (h.row t) g hg).2 fun x => absurd (hX g x).1 (by have := (World.ownsRow.lt (h.row t) g hg).1; omega), h.nl, h.ap, h.small, h.lo⟩
theorem WS.old (h : WS w0 w wb n V L) (o : Old w W) : WS w0 W wb n V L := h.kx (X := fun _ => False) (KeptX.of_old o) fun _ x => x.elim
theorem WS.but {f : Nat} (h : WS w0 w wb n V L) (o : OldBut f w W) (hf : f < w0.heap.size) (hne : f ≠ wb) : WS w0 W wb n V L := h.kx (X := fun g => g = f) (KeptX.of_but o rfl) fun g x => by subst x; exact ⟨hf, hne⟩
theorem WS.mono (h : WS w0 w wb n V L) {m : Nat} (hm : n ≤ m) : WS w0 w wb m V L := ⟨h.mp.mono hm, h.row, h.nl, h.ap, h.small, h.lo⟩
theorem WS.look (h : WS w0 w wb n V L) (t : ByteArray) : (wayV V L t).getD (.slice none 0 0) = V t := by
  unfold wayV
  split
  · rename_i e
    exact (h.nl t (List.isEmpty_iff.1 e)).symm
  · rfl
theorem WS.ways (h : WS w0 w wb n V L) : Ways w wb n (wayV V L) L where
  mp := h.mp
  some' t v e := by
    unfold wayV at e
    split at e
    · cases e
    · obtain rfl := Option.some.inj e
      exact Txts.of_recs (h.row t).recs
  none' t e := by
    unfold wayV at e
    split at e
    · exact List.isEmpty_iff.1 ‹_›
    · cases e
  small := h.small
theorem WS.made (w : World) {b : Nat} (h : w.heap.size = b) (hb : b < w0.heap.size) : WS w0 (w.alloc (.map #[] 0)) b 0 (fun _ => .slice none 0 0) (fun _ => []) :=
  ⟨h ▸ MapV.made _ _ _ _, fun _ => OwnS.nil _ _ _ _, fun _ _ => rfl, fun _ _ _ e => (by cases e), fun _ _ h => (by simp at h), hb⟩
/-- a row grows by one, and is put -/
theorem WS.put (h : WS w0 w wb n V L) {t x : ByteArray} {u : Value} {w1 w2 : World} (hx : x.size ≤ 4194304) (hown : OwnS txE 9 w0 w1 u (L t ++ [x])) (hg : w.grownBy w1 (V t).ownBlock)
    {g : Nat} (hu : u.ownBlock = some g) (hat : (V t).ownBlock = some g ∨ g = w.heap.size) (hm : MapV Tryz.prog 9 Value.string w2 wb (n + 1) (fun q => if q = t then some u else wayV V L q)) (hg2 : w1.grownBy w2 (some wb)) :
    WS w0 w2 wb (n + 1) (fun q => if q = t then u else V q) (fun q => if q = t then L t ++ [x] else L q) := by
  have hlo := h.lo
  have hrow : ∀ q, q ≠ t → ∀ j, (V q).ownBlock = some j → j < w.heap.size ∧ w0.heap.size ≤ j ∧ ¬ (V t).ownBlock = some j := fun q hq j hj => ⟨(World.ownsRow.lt (h.row q) j hj).2, (World.ownsRow.lt (h.row q) j hj).1, fun k => hq (h.ap q t j hj k)⟩
  refine ⟨?_, fun q => ?_, fun q e => ?_, fun q r j h1 h2 => ?_, fun q s hs => ?_, hlo⟩
  · rw [show wayV (fun q => if q = t then u else V q) (fun q => if q = t then L t ++ [x] else L q) = (fun q => if q = t then some u else wayV V L q) from by
      funext q
      unfold wayV
      by_cases e : q = t
      · simp [e]
      · simp [e]]
    exact hm
  · by_cases e : q = t
    · simp only [if_pos e]
      refine ownsRow_block hown fun j hj => ?_
      obtain rfl : g = j := Option.some.inj (hu.symm.trans hj)
      have k1 := (World.ownsRow.lt hown g hj)
      exact hg2.block g k1.2 (by intro e; have := Option.some.inj e; omega)
    · simp only [if_neg e]
      refine ownsRow_block (h.row q) fun j hj => ?_
      obtain ⟨a1, a2, a3⟩ := hrow q e j hj
      rw [hg2.block j (Nat.lt_of_lt_of_le a1 hg.size) (by intro e; have := Option.some.inj e; omega), hg.block j a1 (fun k => a3 k.symm)]
  · by_cases e1 : q = t
    · simp only [if_pos e1] at e
      simp at e
    · simp only [if_neg e1] at e ⊢
      exact h.nl q e
  · by_cases e1 : q = t
    · by_cases e2 : r = t
      · rw [e1, e2]
      · simp only [if_pos e1, if_neg e2] at h1 h2
        obtain rfl : g = j := Option.some.inj (hu.symm.trans h1)
        obtain ⟨a1, a2, a3⟩ := hrow r e2 g h2
        rcases hat with k | k
        · exact absurd k a3
        · omega
    · by_cases e2 : r = t
      · simp only [if_neg e1, if_pos e2] at h1 h2
        obtain rfl : g = j := Option.some.inj (hu.symm.trans h2)
        obtain ⟨a1, a2, a3⟩ := hrow q e1 g h1
        rcases hat with k | k
        · exact absurd k a3
        · omega
      · simp only [if_neg e1, if_neg e2] at h1 h2
        exact h.ap q r j h1 h2
  · by_cases e1 : q = t
    · simp only [if_pos e1] at hs
      rw [List.mem_append, List.mem_singleton] at hs
      rcases hs with hs | rfl
      · exact h.small t s hs
      · exact hx
    · simp only [if_neg e1] at hs
      exact h.small q s hs
end
/-- beyond the world's end nobody owns -/
theorem GS.cut {w0 w : World} {fb bt bs bo n k : Nat} {T : ByteArray → Option ByteArray} {Sb : Pl → Option ByteArray} {Eo : Pl → Option En} {B : Pl → Nat} {TV SV : Pl → Value} {own : Nat → Option Pl} (h : GS w0 w fb bt bs bo n k T Sb Eo B TV SV own) :
    GS w0 w fb bt bs bo n k T Sb Eo B TV SV (fun g => if g < w.heap.size then own g else none) := by
  refine ⟨h.memo, h.mt, h.ms, h.mo, fun p e he => ⟨(h.ent p e he).1, (h.ent p e he).2.cong (h.ent p e he).1 fun g hg => if_pos hg⟩, ?_, ?_, ?_, ?_, h.d1, h.d2, h.d3, h.d4, h.d5, h.d6⟩
  all_goals
    first | rw [if_pos h.memo.lt]; exact h.ff | rw [if_pos h.mt.lt]; exact h.ft | rw [if_pos h.ms.lt]; exact h.fs | rw [if_pos h.mo.lt]; exact h.fo
section
variable {κ : Type} {P : Program} {k e : TypeId} {kv : κ → Value}
theorem MapV.upd [DecidableEq κ] {w : World} {t : TypeId} {b n : Nat} {F : κ → Option Value} (h : MapV P k kv w b n F) (K : Keyed P k) (hinj : ∀ x y, kv x = kv y → x = y) (ht : P.underlying t = some (.map k e)) (hn : n < 9223372036854775807) {y : κ} {kl : Lit} (hkey : keyOf P k (kv y) = some kl) (u : Value) :
    ∃ w', (Instr.mapUpdate t (.map (some b)) (kv y) u).run P w = .ok () w' ∧ MapV P k kv w' b (n + 1) (fun q => if q = y then some u else F q) ∧ w.grownBy w' (some b) := by
  obtain ⟨D, h1, h2⟩ := h
  obtain ⟨w', hrun, r1, r2⟩ := h1.update K ht (val := u) (d := .held u) (ps := []) (by simpa [maxLen] using hn) hkey rfl
  exact ⟨w', hrun, ⟨_, r1, h2.put K hinj h1.isMap hkey u⟩, r2⟩
end
theorem seeF_key {M : List Mn} {m : Mn} (h : m.see = 0) : seeF M m = none := by
  unfold seeF
  rw [if_neg (by rw [h]; decide)]
theorem seeF_91 {M : List Mn} {m : Mn} (h1 : m.see = 1) (h : ¬ hasM M (foldS m.aim)) : seeF M m = some ⟨91, m.src, m.line, 0, m.aim⟩ := by
  unfold seeF
  rw [if_pos h1, if_neg h]
theorem seeF_92 {M : List Mn} {m : Mn} (h1 : m.see = 1) (h : hasM M (foldS m.aim)) (h2 : Rch (edgeM M) (foldS m.aim) (foldS m.term)) : seeF M m = some ⟨92, m.src, m.line, 0, m.aim⟩ := by
  unfold seeF
  rw [if_pos h1, if_pos h, if_pos h2]
theorem seeF_ok {M : List Mn} {m : Mn} (h : hasM M (foldS m.aim)) (h2 : ¬ Rch (edgeM M) (foldS m.aim) (foldS m.term)) : seeF M m = none := by
  unfold seeF
  rw [if_pos h, if_neg h2]
  split <;> rfl
/-- nothing is left -/
def NxDone {κ : Type} (P : Program) (k : TypeId) (kv : κ → Value) (L : κ → Prop) : Prop := ∀ x kl, keyOf P k (kv x) = some kl → ¬ L x
/-- an entry has come -/
def NxMore {κ : Type} (P : Program) (k : TypeId) (kv : κ → Value) (w : World) (b r n : Nat) (F : κ → Option Value) (L : κ → Prop) (cnt : Nat) (w' : World) (cnt' : Nat) (key v : Value) : Prop :=
  ∃ x kl, key = kv x ∧ keyOf P k (kv x) = some kl ∧ L x ∧ F x = some v ∧ MapR P k kv w' b r n F (fun z => L z ∧ z ≠ x) cnt' ∧ cnt' < cnt ∧ w.grownBy w' (some r) ∧ w'.heap.size = w.heap.size
/-- the step of a range over a map, its facts behind one word -/
theorem wpList_next_mw {κ : Type} {P : Program} {ops : Array Oper} {rest : List Oper} {o : Oper} {a : Act} {Q : Exit → Act → World → Prop} {w : World} (hg : o.guard = none) (it : Operand) (hop : o.op = Op.next it false) (k : TypeId) (K : Keyed P k) (kv : κ → Value) (hinj : ∀ x y, kv x = kv y → x = y) (b r n : Nat) (F : κ → Option Value) (L : κ → Prop) (cnt : Nat)
    (hit : a.eval it = .pointer (some ⟨r, 0, none⟩)) (h : MapR P k kv w b r n F L cnt)
    (hDone : NxDone P k kv L → wpList P ops Q rest (a.put o.dst (.tuple #[.bool false])) w)
    (hMore : ∀ (key v : Value) (w' : World) (cnt' : Nat), NxMore P k kv w b r n F L cnt w' cnt' key v → (Instr.entry (.pointer (some ⟨r, 0, none⟩))).run P w' = .ok (.tuple #[key, v]) w' → wpList P ops Q rest (a.put o.dst (.tuple #[.bool true, key, v])) w') :
    wpList P ops Q (o :: rest) a w :=
  wpList_next_mv hg it hop k K kv hinj b r n F L cnt hit h (fun _ h => hDone h) fun x v kl w' cnt' h1 h2 h3 h4 h5 h6 h7 h8 => hMore (kv x) v w' cnt' ⟨x, kl, rfl, h1, h2, h3, h4, h5, h6, h7⟩ h8
/-- which terms were seen -/
def hasV (D : List Pl) (t : ByteArray) : Option Value := if D.any (fun p => decide (p.1 = t)) then some (.int .i64 1) else none
theorem hasV_snoc (D : List Pl) (p : Pl) : hasV (D ++ [p]) = fun q => if q = p.1 then some (.int .i64 1) else hasV D q := by
  funext q
  unfold hasV
  rw [List.any_append]
  by_cases e : q = p.1
  · simp [e]
  · have e2 : decide (p.1 = q) = false := decide_eq_false fun k => e k.symm
    simp only [List.any_cons, List.any_nil, e2, Bool.or_false, if_neg e]
theorem hasV_in {D : List Pl} {t : ByteArray} (h : ∃ p ∈ D, p.1 = t) : hasV D t = some (.int .i64 1) := if_pos (List.any_eq_true.2 (by obtain ⟨p, h1, h2⟩ := h; exact ⟨p, h1, by simp [h2]⟩))
theorem hasV_out {D : List Pl} {t : ByteArray} (h : ¬ ∃ p ∈ D, p.1 = t) : hasV D t = none := if_neg fun k => by
  obtain ⟨p, h1, h2⟩ := List.any_eq_true.1 k
  exact h ⟨p, h1, by simpa using h2⟩
/-- the ways of the entries that were walked -/
def wayD (M : List Mn) (D : List Pl) (t : ByteArray) : List ByteArray := if (t, noB) ∈ D then (seesOf M (t, noB)).map foldS else []
theorem wayD_other {M : List Mn} {D : List Pl} {p : Pl} (h : ¬ p.2 = noB) : wayD M (D ++ [p]) = wayD M D := by
  funext t
  unfold wayD
  have : (t, noB) ∈ D ++ [p] ↔ (t, noB) ∈ D := by
    rw [List.mem_append, List.mem_singleton]
    constructor
    · rintro (h1 | h1)
      · exact h1
      · rw [← h1] at h; exact absurd rfl h
    · exact .inl
  by_cases e : (t, noB) ∈ D
  · rw [if_pos e, if_pos (this.2 e)]
  · rw [if_neg e, if_neg (fun k => e (this.1 k))]
theorem wayD_own {M : List Mn} {D : List Pl} {p : Pl} (h : p.2 = noB) : wayD M (D ++ [p]) = fun q => if q = p.1 then (seesOf M p).map foldS else wayD M D q := by
  obtain ⟨a, b⟩ := p
  obtain rfl : b = noB := h
  funext t
  unfold wayD
  by_cases e : t = a
  · subst e
    rw [if_pos (by simp)]; simp
  · have : (t, noB) ∈ D ++ [(a, noB)] ↔ (t, noB) ∈ D := by
      rw [List.mem_append, List.mem_singleton]
      constructor
      · rintro (h1 | h1)
        · exact h1
        · exact absurd (congrArg Prod.fst h1) e
      · exact .inl
    simp only [if_neg e]
    by_cases k : (t, noB) ∈ D
    · rw [if_pos k, if_pos (this.2 k)]
    · rw [if_neg k, if_neg (fun x => k (this.1 x))]
theorem wayD_new {M : List Mn} {D : List Pl} {p : Pl} (h : p.2 = noB) (hp : p ∉ D) : wayD M D p.1 = [] := by
  obtain ⟨a, b⟩ := p
  obtain rfl : b = noB := h
  exact if_neg hp
/-- all were walked: whom a term leads to -/
theorem wayD_edge {M : List Mn} {D : List Pl} (hs : ∀ m ∈ M, m.see = 0 ∨ (m.see = 1 ∧ m.sub = noB)) (hf : foldS noB = noB) (hD : ∀ p, p ∈ D ↔ p ∈ places M) (a b : ByteArray) : b ∈ wayD M D a ↔ edgeM M a b := by
  unfold wayD edgeM
  constructor
  · intro h
    split at h
    · obtain ⟨s, h1, rfl⟩ := List.mem_map.1 h
      obtain ⟨m, h2, h3, h4, rfl⟩ := seesOf_mem h1
      exact ⟨m, h2, h4, congrArg Prod.fst h3, rfl⟩
    · simp at h
  · rintro ⟨m, h1, h2, rfl, rfl⟩
    have hp : m.pl = (foldS m.term, noB) := by
      rcases hs m h1 with h | ⟨_, h⟩
      · rw [h] at h2; exact absurd h2 (by decide)
      · unfold Mn.pl; rw [h, hf]
    have hin : (foldS m.term, noB) ∈ D := (hD _).2 (mem_places.2 ⟨m, h1, hp⟩)
    rw [if_pos hin]
    obtain ⟨s, k1, k2⟩ := seesOf_has h1 hp h2
    exact List.mem_map.2 ⟨s, k1, k2⟩
/-- the walk over the entries -/
structure RW (w1 w w0 wr : World) (fb bt bs bo r hb wb n nH nW cnt k : Nat) (T : ByteArray → Option ByteArray) (Sb : Pl → Option ByteArray) (Eo : Pl → Option En) (B : Pl → Nat) (TV SV : Pl → Value) (own : Nat → Option Pl) (H : ByteArray → Option Value) (V : ByteArray → Value) (L : ByteArray → List ByteArray) (Lf : Pl → Prop) : Prop where
  gs : GS w1 wr fb bt bs bo n k T Sb Eo B TV SV own
  rg : MapR Tryz.prog 89 plV wr bo r k (fun p => (Eo p).map fun _ => .pointer (some ⟨B p, 0, none⟩)) Lf cnt
  has : MapV Tryz.prog 9 Value.string wr hb nH H
  ws : WS w0 wr wb nW V L
  lo : OldBut fb w wr
  ow : ∀ g, w.heap.size ≤ g → own g = none
  p1 : w.heap.size ≤ hb ∧ hb < w0.heap.size
  p2 : w.heap.size ≤ wb
  p3 : w.heap.size ≤ r ∧ r < w0.heap.size
  p4 : hb ≠ wb ∧ hb ≠ r ∧ wb ≠ r
  p5 : fb < w.heap.size ∧ bt < w.heap.size ∧ bs < w.heap.size ∧ bo < w.heap.size
  p6 : w.heap.size ≤ w0.heap.size
  p7 : w0.heap.size ≤ wr.heap.size
section
variable {w1 w w0 wr W : World} {fb bt bs bo r hb wb n nH nW cnt k : Nat} {T : ByteArray → Option ByteArray} {Sb : Pl → Option ByteArray} {Eo : Pl → Option En} {B : Pl → Nat} {TV SV : Pl → Value} {own : Nat → Option Pl} {H : ByteArray → Option Value} {V : ByteArray → Value} {L : ByteArray → List ByteArray} {Lf : Pl → Prop}
theorem RW.old (h : RW w1 w w0 wr fb bt bs bo r hb wb n nH nW cnt k T Sb Eo B TV SV own H V L Lf) (o : Old wr W) : RW w1 w w0 W fb bt bs bo r hb wb n nH nW cnt k T Sb Eo B TV SV own H V L Lf :=
  ⟨h.gs.old o, h.rg.old o, h.has.old o, h.ws.old o, h.lo.old o, h.ow, h.p1, h.p2, h.p3, h.p4, h.p5, h.p6, Nat.le_trans h.p7 o.size⟩
theorem MapR.block {κ : Type} {P : Program} {kt : TypeId} {kv : κ → Value} {w w' : World} {b r n cnt : Nat} {F : κ → Option Value} {L : κ → Prop} (h : MapR P kt kv w b r n F L cnt) {X : Nat → Prop} (hk : KeptX X w w') (hb : ¬ X b) (hr : ¬ X r) : MapR P kt kv w' b r n F L cnt := by
  have hbl := hk.block b h.map.lt hb
  have hrl := hk.block r h.lt hr
  obtain ⟨D, left, h1, h2⟩ := h
  obtain ⟨es, clock, since, seen, c0, hb0, F0, hs, hD, hr0, rest⟩ := h1
  exact ⟨D, left, ⟨es, clock, since, seen, c0, hbl.trans hb0, F0, hs, hD, hrl.trans hr0, rest⟩, h2⟩
theorem RW.but (h : RW w1 w w0 wr fb bt bs bo r hb wb n nH nW cnt k T Sb Eo B TV SV own H V L Lf) (o : OldBut fb wr W) {m : Nat} (hm : MemoN W fb m) : RW w1 w w0 W fb bt bs bo r hb wb m nH nW cnt k T Sb Eo B TV SV own H V L Lf := by
  have hp := h.p5
  have h1 := h.p1
  have h2 := h.p2
  have h3 := h.p3
  have h6 := h.p6
  have hk := KeptX.of_but (X := fun g => g = fb) o rfl
  exact ⟨h.gs.but o hm, h.rg.block hk (fun e => h.gs.d3 e.symm) (by show ¬ r = fb; omega), h.has.block (hk.block hb h.has.lt (by show ¬ hb = fb; omega)), h.ws.but o (by omega) (by omega), h.lo.trans o, h.ow, h.p1, h.p2, h.p3, h.p4, h.p5, h.p6, Nat.le_trans h.p7 o.size⟩
/-- what writes in blocks younger than the maps that came in, and in none of the walk's own, keeps the entries -/
theorem RW.gsY (h : RW w1 w w0 wr fb bt bs bo r hb wb n nH nW cnt k T Sb Eo B TV SV own H V L Lf) {X : Nat → Prop} (hk : KeptX X wr W) (hX : ∀ g, X g → w.heap.size ≤ g) : GS w1 W fb bt bs bo n k T Sb Eo B TV SV own := by
  have hp := h.p5
  exact h.gs.kx hk fun g x => by
    have := hX g x
    exact ⟨by omega, by omega, by omega, by omega, h.ow g this⟩
theorem RW.loY (h : RW w1 w w0 wr fb bt bs bo r hb wb n nH nW cnt k T Sb Eo B TV SV own H V L Lf) {X : Nat → Prop} (hk : KeptX X wr W) (hX : ∀ g, X g → w.heap.size ≤ g) : OldBut fb w W :=
  ⟨hk.os.trans h.lo.os, hk.tape.trans h.lo.tape, hk.output.trans h.lo.output, Nat.le_trans h.lo.size hk.size, fun i hi hne => (hk.block i (Nat.lt_of_lt_of_le hi h.lo.size) fun x => by have := hX i x; omega).trans (h.lo.block i hi hne)⟩
theorem RW.stepR (h : RW w1 w w0 wr fb bt bs bo r hb wb n nH nW cnt k T Sb Eo B TV SV own H V L Lf) (hg : wr.grownBy W (some r)) {Lf' : Pl → Prop} {cnt' : Nat} (hm : MapR Tryz.prog 89 plV W bo r k (fun p => (Eo p).map fun _ => .pointer (some ⟨B p, 0, none⟩)) Lf' cnt') :
    RW w1 w w0 W fb bt bs bo r hb wb n nH nW cnt' k T Sb Eo B TV SV own H V L Lf' := by
  have h3 := h.p3
  have hk := KeptX.of_grown (X := fun g => g = r) hg fun g e => (Option.some.inj e).symm
  exact ⟨h.gsY hk fun g e => by show w.heap.size ≤ g; have : g = r := e; omega, hm, h.has.block (hk.block hb h.has.lt h.p4.2.1), h.ws.kx hk fun g e => by have : g = r := e; exact ⟨by omega, fun k => h.p4.2.2 (k.symm.trans this)⟩, h.loY hk fun g e => by have : g = r := e; omega, h.ow, h.p1, h.p2, h.p3, h.p4, h.p5, h.p6, Nat.le_trans h.p7 hk.size⟩
theorem RW.putH (h : RW w1 w w0 wr fb bt bs bo r hb wb n nH nW cnt k T Sb Eo B TV SV own H V L Lf) (hg : wr.grownBy W (some hb)) {H' : ByteArray → Option Value} {m : Nat} (hm : MapV Tryz.prog 9 Value.string W hb m H') :
    RW w1 w w0 W fb bt bs bo r hb wb n m nW cnt k T Sb Eo B TV SV own H' V L Lf := by
  have h1 := h.p1
  have h5 := h.p5
  have hk := KeptX.of_grown (X := fun g => g = hb) hg fun g e => (Option.some.inj e).symm
  exact ⟨h.gsY hk fun g e => by have : g = hb := e; omega, h.rg.block hk (by show ¬ bo = hb; omega) (fun e => h.p4.2.1 e.symm), hm, h.ws.kx hk fun g e => by have : g = hb := e; exact ⟨by omega, fun k => h.p4.1 (this.symm.trans k)⟩, h.loY hk fun g e => by have : g = hb := e; omega, h.ow, h.p1, h.p2, h.p3, h.p4, h.p5, h.p6, Nat.le_trans h.p7 hk.size⟩
theorem RW.putW (h : RW w1 w w0 wr fb bt bs bo r hb wb n nH nW cnt k T Sb Eo B TV SV own H V L Lf) {t x : ByteArray} {u : Value} {z W : World} (hx : x.size ≤ 4194304) (hown : OwnS txE 9 w0 z u (L t ++ [x])) (hg : wr.grownBy z (V t).ownBlock)
    {g : Nat} (hu : u.ownBlock = some g) (hat : (V t).ownBlock = some g ∨ g = wr.heap.size) (hm : MapV Tryz.prog 9 Value.string W wb (nW + 1) (fun q => if q = t then some u else wayV V L q)) (hg2 : z.grownBy W (some wb)) :
    RW w1 w w0 W fb bt bs bo r hb wb n nH (nW + 1) cnt k T Sb Eo B TV SV own H (fun q => if q = t then u else V q) (fun q => if q = t then L t ++ [x] else L q) Lf := by
  have h1 := h.p1
  have h2 := h.p2
  have h3 := h.p3
  have h5 := h.p5
  have h6 := h.p6
  have hwl := h.ws.lo
  have hk : KeptX (fun g => w0.heap.size ≤ g ∨ g = wb) wr W := (KeptX.of_grown hg fun g e => .inl (World.ownsRow.lt (h.ws.row t) g e).1).trans (KeptX.of_grown hg2 fun g e => .inr (Option.some.inj e).symm)
  have hY : ∀ g, (w0.heap.size ≤ g ∨ g = wb) → w.heap.size ≤ g := fun g e => by omega
  exact ⟨h.gsY hk hY, h.rg.block hk (by omega) (by have := h.p4; omega), h.has.block (hk.block hb h.has.lt (by have := h.p4; omega)), h.ws.put hx hown hg hu hat hm hg2, h.loY hk hY, h.ow, h.p1, h.p2, h.p3, h.p4, h.p5, h.p6, Nat.le_trans h.p7 hk.size⟩
/-- what is looked up in the ways -/
theorem RW.lookW (h : RW w1 w w0 wr fb bt bs bo r hb wb n nH nW cnt k T Sb Eo B TV SV own H V L Lf) {t : ByteArray} {kl : Lit} (hk : keyOf Tryz.prog 9 (.string t) = some kl) :
    ∀ W, Old wr W → (Instr.lookup 102 (.map (some wb)) (.string t) false).run Tryz.prog W = .ok (V t) W := fun W o => by
  have := (h.ws.old o).mp.look (string_keyed Tryz.underlying9) Tryz.underlying102 zeroTxsK hk
  rw [WS.look (h.ws.old o)] at this
  exact this
end
theorem pl_sizes {M : List Mn} (hfs : ∀ m ∈ M, (foldS m.term).size ≤ 4194304 ∧ (foldS m.sub).size ≤ 4194304 ∧ (foldS m.aim).size ≤ 4194304) {p : Pl} (hp : p ∈ places M) : p.1.size ≤ 4194304 ∧ p.2.size ≤ 4194304 := by
  obtain ⟨m, hm, rfl⟩ := mem_places.1 hp
  exact ⟨(hfs m hm).1, (hfs m hm).2.1⟩
end Go.Proofs.YtohngjkedhpikaaGreatDoor
