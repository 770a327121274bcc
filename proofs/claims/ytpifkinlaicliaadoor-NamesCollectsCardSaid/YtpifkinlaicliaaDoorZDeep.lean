/-
  NamesNone: for every input it returns true and leaves what was as it was: no condition; the two tables of package utf8 that its row lists are tied to the program's text by the given tie.
-/
import Derived.Test.YtpifkinlaicliaaDoorCards
import Derived.Test.YtpifkinlaicliaaDoorTie
import Derived.Test.YtpifkinlaicliaaDoorZNamesNoneWalk
import Derived.Test.YtpifkinlaicliaaDoorZOpen
import Derived.Test.YtpifkinlaicliaaDoorZNums
import Derived.Lib.LaidTab
import Derived.Test.YtpifkinlaicliaaDoorZRInts
import Derived.ShutString
import Derived.ChangeOld
import Derived.Carry
import Derived.Test.YtpifkinlaicliaaDoorZRecs
namespace Go.Proofs.YtpifkinlaicliaaDoor.namesNone
open Go.ChangeShapes Go.WideShapes Go.ChangeAt Go.RowKit
open Go.ChangeMaps (open_string shut_string)
set_option linter.unusedVariables false

theorem own : ownKnob Tryd.prog.godebug = none := by kernel_rfl
theorem laidOut : laidOutB Tryd.prog = true := by kernel_rfl

theorem witness_row (os : Os) {H : Type} (enc : TypeId × Value → H) :
    (OpenSpec.ofChange Rows.namesNoneSpec).preRow enc Tryd.prog Tryd.f7 Rows.namesNoneRow.domain false Rows.namesNoneRow.laid ((laidWorld os).forCall (fun _ _ => 0) ⟨#[], #[.string ⟨#[]⟩, .int .i64 0], []⟩).memory #[.string ⟨#[]⟩, .int .i64 0] := by
  have hw : (DataW.whole enc Tryd.prog ((laidWorld os).forCall (fun _ _ => 0) ⟨#[], #[.string ⟨#[]⟩, .int .i64 0], []⟩).memory Tryd.f7.params.toList (OpenSpec.ofChange Rows.namesNoneSpec).vars false (#[.string ⟨#[]⟩, .int .i64 0] : Array Value).toList 8).map (fun x => (x.1, x.2.1)) =
      some ([.lit (.string []), .lit (.int .i64 0)], []) := by kernel_rfl
  obtain ⟨⟨x1, x2, x3⟩, hx, hx1⟩ := Option.map_eq_some_iff.1 hw
  simp only [Prod.mk.injEq] at hx1
  obtain ⟨rfl, rfl⟩ := hx1
  exact OpenSpec.preRow_of_cond 8 hx (by kernel_rfl) (fun k hk => by cases hk) (by kernel_rfl) (laid_met os _)

set_option maxRecDepth 100000 in
set_option maxHeartbeats 2000000 in
theorem lifted (os : Os) (started : os.Started) (H : Type) (enc : TypeId × Value → H) (F : Stop.Interp) :
    ReturnsInHanded {} Tryd.checked os 7 .any ((OpenSpec.ofChange Rows.namesNoneSpec).preRow enc Tryd.prog Tryd.f7 Rows.namesNoneRow.domain false Rows.namesNoneRow.laid) (((OpenSpec.ofChange Rows.namesNoneSpec).at F).post enc Tryd.prog Tryd.f7 false true false false) := by
  refine returnsInHanded_of_row (C := Tryd.checked) (s := (OpenSpec.ofChange Rows.namesNoneSpec)) own started (by kernel_rfl) Tryd.func7
    (witness_row_atRef (enc := enc) (C := Tryd.checked) false (laidWorld os) #[.string ⟨#[]⟩, .int .i64 0] rfl (by kernel_rfl) (by kernel_rfl) (by kernel_rfl) (witness_row os enc)) ?_
  intro W base args ds gs before hval0 hW _ hcond hsz0 hL _ _
  have hval : ∀ (j : Nat) t v, Tryd.f7.params[j]? = some t → args[j]? = some v → Value.okWide Tryd.prog W .any base t v := hval0
  have hW' := hW
  have hT : Tabs W := tabs_of hL (.tail _ (.head _)) (.head _)
  obtain ⟨p, q, hA0, hV, rfl, hfz, hnd⟩ := hW
  have hA : DataW.TrodAll enc Tryd.prog W 0 (fun _ => true) true Tryd.f7.params.toList args.toList ds p := hA0
  obtain ⟨rfl, rfl⟩ := trodVars_none hV
  have hsz : (DataW.weightsEach Tryd.prog Tryd.f7.params.toList ds).all (· ≤ reachBytes) = true := by
    have e1 : Tryd.f7.params.toList ++ (OpenSpec.ofChange Rows.namesNoneSpec).bare.plain.varTypes Tryd.checked.prog = Tryd.f7.params.toList := List.append_nil _
    rw [e1, List.append_nil] at hsz0
    exact hsz0
  clear hsz0 hcond hL
  rw [Tryd.params7] at hA hval hsz
  obtain ⟨v0, vs0, d0, ds0, p0, q0, hargs, rfl, rfl, h0, r0⟩ := trodAll_cons hA
  obtain ⟨v1, vs1, d1, ds1, p1, q1, rfl, rfl, rfl, h1, r1⟩ := trodAll_cons r0
  obtain ⟨rfl, rfl, rfl⟩ := trodAll_nil r1
  obtain rfl : args = #[v0, v1] := by cases args; simp_all
  obtain ⟨l0, rfl, rfl, rfl, w0⟩ := open_string Tryd.underlying9 (hval 0 9 v0 rfl rfl) h0
  have z0 : l0.size ≤ 140737488351232 := by have h9 := sized_string hsz (j := 0) rfl rfl; rw [show reachBytes = 140737488351232 from rfl] at h9; simpa using h9
  obtain ⟨l1, rfl, rfl, rfl, w1⟩ := open_int Tryd.underlying3 (hval 1 3 v1 rfl rfl) h1
  have b1 := bounds_i64 w1
  clear hA0 hval0
  refine (Go.Proofs.YtpifkinlaicliaaDoor.namesNone_row_walk W hT l0 (by unfold maxLen at w0; omega) z0 l1 b1).mono fun e W' ⟨he, bel⟩ => ?_
  subst he
  exact ⟨_, rfl, _, _, _, [], _, [], hW', trodAll_mk1 (shut_bool Tryd.underlying4 _), (trodAll_cons_mk (shut_string Tryd.underlying9 w0) (trodAll_cons_mk (shut_int Tryd.underlying3 w1) trodAll_mk0)), rfl, bel.frame _, fun h => by cases h⟩

theorem said : Rows.NamesNoneSaid :=
  OpenClaim.holds_of_cond 7 Tryd.f7 rfl rfl rfl rfl rfl rfl rfl ⟨rfl, rfl, rfl, rfl, rfl⟩ rfl rfl rfl rfl rfl (by kernel_rfl) Tryd.func7 (by kernel_rfl)
    (of_decide_eq_true (by kernel_rfl)) (by unfold Func.isWrapper; first | (rw [if_pos (by decide +kernel)]; kernel_rfl) | (rw [if_neg (by decide +kernel)]; exact ⟨rfl, rfl⟩))
    (fun os started H enc _ F => by rw [OpenClaim.pre_eq_preRow]; exact lifted os started H enc F)

theorem plain (f : FuncId) (fn : Func) (hf : Tryd.pinned.checked.prog.funcNamed Rows.namesNoneRow.func = some f) (hfn : Tryd.pinned.checked.prog.funcs[f]? = some fn) :
    false = Tryd.pinned.checked.prog.looks [] ∧ ∀ (j : Nat) t, fn.params[j]? = some t → Tryd.pinned.checked.prog.wantsStandIn t = false := by
  obtain rfl : f = 7 := Option.some.inj ((show Tryd.prog.funcNamed Rows.namesNoneRow.func = some 7 by kernel_rfl).symm.trans hf) |>.symm
  obtain rfl : fn = Tryd.f7 := (Option.some.inj (Tryd.func7.symm.trans hfn)).symm
  refine ⟨by kernel_rfl, fun j t ht => ?_⟩
  have hall : (Tryd.f7.params.all fun t => !Tryd.prog.wantsStandIn t) = true := by kernel_rfl
  have := Array.all_eq_true'.1 hall t (Array.mem_of_getElem? ht)
  exact (Bool.not_eq_eq_eq_not.mp this)

theorem proved : Rows.NamesNoneCardSaid :=
  Claim7.holds_tied_plain_at .later [] _ _ _ _ said (fun _ h => by cases h) (by kernel_rfl) (fun _ h => by cases h) namesNone_row_tie rfl ⟨rfl, rfl⟩ (by kernel_rfl) rfl plain (by kernel_rfl)
#print axioms proved
end Go.Proofs.YtpifkinlaicliaaDoor.namesNone
/-
  SLICES OF RECORDS THAT STAND FOR SOMETHING, over no program: each record's further meaning is said by a relation; rows that lie apart from some blocks.
-/

namespace Go.Proofs.YtpifkinlaicliaaDoor
open Go.RowKit

/-- a slice value's three parts -/
abbrev Sl := Option Addr × Nat × Nat
def Sl.v (x : Sl) : Value := .slice x.1 x.2.1 x.2.2
def slE : Enc Sl := ⟨1, fun x => [x.v], fun _ => rfl, fun x u hu => by
  simp only [List.mem_cons, List.not_mem_nil, or_false] at hu
  subst hu; rfl⟩
section
variable {α β γ : Type}
/-- two lists stand for one another -/
def Both (R : β → α → Prop) (t : List β) (l : List α) : Prop := t.length = l.length ∧ ∀ (i : Nat) (x : β) (y : α), t[i]? = some x → l[i]? = some y → R x y
theorem Both.nil {R : β → α → Prop} : Both R [] [] := ⟨rfl, fun i x y h => by simp at h⟩
theorem Both.mono {R R' : β → α → Prop} {t : List β} {l : List α} (h : Both R t l) (hR : ∀ x y, R x y → R' x y) : Both R' t l := ⟨h.1, fun i x y hx hy => hR x y (h.2 i x y hx hy)⟩
theorem Both.snoc {R : β → α → Prop} {t : List β} {l : List α} (h : Both R t l) {x : β} {y : α} (hR : R x y) : Both R (t ++ [x]) (l ++ [y]) := by
  refine ⟨by simp [h.1], fun i a b ha hb => ?_⟩
  by_cases hi : i < t.length
  · rw [List.getElem?_append_left hi] at ha
    rw [List.getElem?_append_left (by rw [← h.1]; exact hi)] at hb
    exact h.2 i a b ha hb
  · rw [List.getElem?_append_right (by omega)] at ha
    rw [List.getElem?_append_right (by rw [← h.1]; omega), ← h.1] at hb
    have hz : i - t.length = 0 := by
      have := (List.getElem?_eq_some_iff.1 ha).1
      simp at this; omega
    rw [hz] at ha hb
    obtain rfl := Option.some.inj ha
    obtain rfl := Option.some.inj hb
    exact hR
theorem Both.at {R : β → α → Prop} {t : List β} {l : List α} (h : Both R t l) {i : Nat} {y : α} (hy : l[i]? = some y) : ∃ x, t[i]? = some x ∧ R x y := by
  have hi : i < t.length := by rw [h.1]; exact (List.getElem?_eq_some_iff.1 hy).1
  exact ⟨_, List.getElem?_eq_getElem hi, h.2 i _ y (List.getElem?_eq_getElem hi) hy⟩
theorem Both.unsnoc {R : β → α → Prop} {t : List β} {l : List α} {x : β} {y : α} (h : Both R (t ++ [x]) (l ++ [y])) : Both R t l ∧ R x y := by
  have hl : t.length = l.length := by have := h.1; simp at this; exact this
  refine ⟨⟨hl, fun i a b ha hb => ?_⟩, ?_⟩
  · exact h.2 i a b (by rw [List.getElem?_append_left (List.getElem?_eq_some_iff.1 ha).1]; exact ha) (by rw [List.getElem?_append_left (List.getElem?_eq_some_iff.1 hb).1]; exact hb)
  · exact h.2 t.length x y (by simp) (by rw [hl]; simp)
/-- a slice of records, each standing for something -/
def Seqs (c : Enc β) (R : World → β → α → Prop) (w : World) (v : Value) (l : List α) : Prop := ∃ t : List β, Recs c w v t ∧ Both (R w) t l
theorem Seqs.old {c : Enc β} {R : World → β → α → Prop} (hR : ∀ w W x y, R w x y → Old w W → R W x y) {w W : World} {v : Value} {l : List α} (h : Seqs c R w v l) (o : Old w W) : Seqs c R W v l := by
  obtain ⟨t, h1, h2⟩ := h
  exact ⟨t, h1.old o, h2.mono fun x y h => hR _ _ _ _ h o⟩
theorem Seqs.nil (c : Enc β) (R : World → β → α → Prop) (w : World) : Seqs c R w (.slice none 0 0) [] := ⟨[], Recs.nil c w, Both.nil⟩
theorem Seqs.form {c : Enc β} {R : World → β → α → Prop} {w : World} {v : Value} {l : List α} (h : Seqs c R w v l) : ∃ a cap, v = .slice a l.length cap ∧ l.length ≤ cap ∧ cap ≤ 9223372036854775807 := by
  obtain ⟨t, h1, h2, _⟩ := h
  have := h1.form
  rwa [h2] at this
/-- what lies at the i-th -/
theorem Seqs.at {c : Enc β} {R : World → β → α → Prop} {w : World} {a : Option Addr} {n cap : Nat} {l : List α} (h : Seqs c R w (.slice a n cap) l) :
    ∃ b off, (0 < l.length → a = some ⟨b, off, none⟩) ∧ ∀ (i : Nat) (y : α), l[i]? = some y → ∃ x, R w x y ∧ ∀ (j : Nat) (u : Value), (c.enc x)[j]? = some u → ∀ W, Old w W → W.cell? ⟨b, off + (i * c.k + j), none⟩ = some u := by
  obtain ⟨t, ⟨a', cap', b, off, e, h1, h2, h3, h4⟩, hb⟩ := h
  obtain ⟨rfl, rfl, rfl⟩ := Value.slice.inj e
  refine ⟨b, off, fun hp => h3 (by rw [hb.1]; exact hp), fun i y hy => ?_⟩
  obtain ⟨x, hx, hR⟩ := hb.at hy
  exact ⟨x, hR, fun j u hu => h4 _ u (Enc.all_at hx hu)⟩
/-- all blocks but those of F lie as they lay -/
def KeptF (F : Nat → Prop) (w W : World) : Prop := ∀ b, b < w.heap.size → ¬ F b → W.heap[b]? = w.heap[b]?
/-- Recs whose row lies in no block of which F holds -/
def RecsF (c : Enc α) (F : Nat → Prop) (w : World) (v : Value) (t : List α) : Prop :=
  ∃ a cap b off, v = .slice a t.length cap ∧ t.length ≤ cap ∧ cap ≤ 9223372036854775807 ∧ (0 < t.length → a = some ⟨b, off, none⟩) ∧ (0 < t.length → ¬ F b) ∧ ∀ j u, (c.all t)[j]? = some u → w.cell? ⟨b, off + j, none⟩ = some u
theorem RecsF.recs {c : Enc α} {F : Nat → Prop} {w : World} {v : Value} {t : List α} (h : RecsF c F w v t) : Recs c w v t := by
  obtain ⟨a, cap, b, off, e, h1, h2, h3, _, h4⟩ := h
  exact ⟨a, cap, b, off, e, h1, h2, h3, fun j u hu => later (h4 j u hu)⟩
theorem RecsF.kept {c : Enc α} {F F' : Nat → Prop} {w W : World} {v : Value} {t : List α} (h : RecsF c F w v t) (hk : KeptF F w W) (hF : ∀ b, b < w.heap.size → ¬ F b → ¬ F' b) (h0 : 0 < c.k) : RecsF c F' W v t := by
  obtain ⟨a, cap, b, off, e, h1, h2, h3, hf, h4⟩ := h
  have hb : 0 < t.length → b < w.heap.size := fun hp => by
    have hl : 0 < (c.all t).length := by rw [Enc.all_length]; exact Nat.mul_pos hp h0
    exact World.block_lt_of_cell? w _ (h4 0 _ (List.getElem?_eq_getElem hl))
  refine ⟨a, cap, b, off, e, h1, h2, h3, fun hp => hF b (hb hp) (hf hp), fun j u hu => ?_⟩
  have hp : 0 < t.length := by
    rcases Nat.eq_zero_or_pos t.length with h | h
    · rw [List.eq_nil_of_length_eq_zero h] at hu; simp [Enc.all] at hu
    · exact h
  rw [World.cell?_of_block (w := w) (hk b (hb hp) (hf hp))]
  exact h4 j u hu
theorem RecsF.of_own {c : Enc α} {F : Nat → Prop} {E : TypeId} {w0 w : World} {v : Value} {t : List α} (h : OwnS c E w0 w v t) (hF : ∀ b, v.ownBlock = some b → w0.heap.size ≤ b → b < w.heap.size → ¬ F b) : RecsF c F w v t := by
  have hr := h.recs
  obtain ⟨a, cap, b, off, e, h1, h2, h3, h4⟩ := hr
  subst e
  refine ⟨a, cap, b, off, rfl, h1, h2, h3, fun hp => ?_, fun j u hu => h4 j u hu w (Old.refl w)⟩
  obtain ⟨g, e, hg, hlt⟩ := h.block hp
  rw [h3 hp] at e
  obtain ⟨rfl, _, _⟩ := Addr.mk.inj (Option.some.inj e)
  exact hF _ (by rw [h3 hp]; rfl) hg hlt
theorem RecsF.nil (c : Enc α) (F : Nat → Prop) (w : World) : RecsF c F w (.slice none 0 0) [] := ⟨none, 0, 0, 0, rfl, by simp, by simp, by simp, by simp, by simp [Enc.all]⟩
/-- a row that a literal has just laid -/
theorem RecsF.lit {c : Enc α} {F : Nat → Prop} {w : World} {b : Nat} {t : List α} {v : Value} (hv : v = .slice (some ⟨b, 0, none⟩) t.length t.length) (hl : t.length ≤ 9223372036854775807) (hF : ¬ F b) (h : ∀ j u, (c.all t)[j]? = some u → w.cell? ⟨b, j, none⟩ = some u) : RecsF c F w v t :=
  ⟨_, _, b, 0, hv, Nat.le_refl _, hl, fun _ => rfl, fun _ => hF, fun j u hu => by rw [Nat.zero_add]; exact h j u hu⟩
theorem KeptF.old {F : Nat → Prop} {w W : World} (o : Old w W) : KeptF F w W := fun b hb _ => o.block b hb
theorem KeptF.grown {F : Nat → Prop} {w W : World} {row : Option Nat} (h : w.grownBy W row) (hF : ∀ b, row = some b → F b) : KeptF F w W := fun b hb hf => h.block b hb fun e => hf (hF b e.symm)
theorem KeptF.trans {F : Nat → Prop} {x y z : World} (h : KeptF F x y) (k : KeptF F y z) (hs : x.heap.size ≤ y.heap.size) : KeptF F x z := fun b hb hf => (k b (Nat.lt_of_lt_of_le hb hs) hf).trans (h b hb hf)
theorem KeptF.setCell {F : Nat → Prop} (w : World) {g o : Nat} (v : Value) (hg : F g) : KeptF F w (w.setCell ⟨g, o, none⟩ v) := fun b _ hf => Below.heap_setCell _ _ _ b (fun e => hf (by rw [e]; exact hg))
theorem KeptF.mono {F F' : Nat → Prop} {w W : World} (h : KeptF F w W) (hF : ∀ b, F b → F' b) : KeptF F' w W := fun b hb hf => h b hb fun e => hf (hF b e)
end
end Go.Proofs.YtpifkinlaicliaaDoor
