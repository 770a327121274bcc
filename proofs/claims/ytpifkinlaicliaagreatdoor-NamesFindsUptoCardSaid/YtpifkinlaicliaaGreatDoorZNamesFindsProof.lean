/-
  WHAT THE BOUND OF THE SECOND FORM GIVES: the length of a slice that came in.
-/
import Derived.Test.YtpifkinlaicliaaGreatDoorRows
import Derived.Test.YtpifkinlaicliaaGreatDoorZLaid
import Derived.Test.YtpifkinlaicliaaGreatDoorZTextCompare2
import Derived.Lib.LaidTab
import Derived.Test.YtpifkinlaicliaaGreatDoorZTab
import Derived.Deep.Slices
import Derived.SliceStrings
import Derived.ChangeMaps5
import Derived.Test.YtpifkinlaicliaaGreatDoorCards
import Derived.Test.YtpifkinlaicliaaGreatDoorTie
import Derived.Test.YtpifkinlaicliaaGreatDoorZNamesFindsWalk
import Derived.ShutString
import Derived.ChangeOld
import Derived.Carry
namespace Go.Proofs.YtpifkinlaicliaaGreatDoor
open Go.RowKit

theorem bulk_pos {H : Type} (d : DataW H) : 1 ≤ Rows.uptoBulk d := by
  cases d with
  | lit l => cases l <;> simp [Rows.uptoBulk]
  | _ => simp [Rows.uptoBulk]
theorem bulk_len {H : Type} : ∀ l : List (DataW H), l.length ≤ Rows.uptoBulkAll l
  | [] => by simp [Rows.uptoBulkAll]
  | x :: r => by have := bulk_pos x; have := bulk_len r; simp only [Rows.uptoBulkAll, List.length_cons]; omega
theorem bulk_part {H : Type} {d : DataW H} : ∀ {l : List (DataW H)}, d ∈ l → Rows.uptoBulk d ≤ Rows.uptoBulkAll l
  | x :: r, h => by
    simp only [Rows.uptoBulkAll]
    rcases List.mem_cons.1 h with e | e
    · subst e; omega
    · have := bulk_part e; omega
theorem long_small {H : Type} {l : List (DataW H)} (hk : Rows.uptoSmall H l = true) {d : DataW H} (hd : d ∈ l) {n : Nat} (h : Long d n) : n ≤ 1048576 := by
  have hb : Rows.uptoBulkAll l ≤ 1048576 := of_decide_eq_true hk
  have hp := bulk_part hd
  rcases h with ⟨_, rfl⟩ | ⟨el, spr, rfl, rfl⟩
  · omega
  · have := bulk_len el
    simp only [Rows.uptoBulk] at hp
    omega
theorem str_small {H : Type} {l : List (DataW H)} (hk : Rows.uptoSmall H l = true) {s : ByteArray} (h : (DataW.lit (.string s.data.toList) : DataW H) ∈ l) : s.size ≤ 1048576 := by
  have hb : Rows.uptoBulkAll l ≤ 1048576 := of_decide_eq_true hk
  have hp := bulk_part h
  have hs : s.data.toList.length = s.size := by simp
  simp only [Rows.uptoBulk] at hp
  omega
end Go.Proofs.YtpifkinlaicliaaGreatDoor
/-
  OPENING ARGUMENTS: a slice of texts; its bulk.
-/






namespace Go.Proofs.YtpifkinlaicliaaGreatDoor
open Go.RowKit Go.ChangeShapes Go.WideShapes
theorem long_bulk {H : Type} {d : DataW H} {n : Nat} (h : Long d n) : n ≤ Rows.uptoBulk d := by
  rcases h with ⟨_, rfl⟩ | ⟨el, spr, rfl, rfl⟩
  · omega
  · have := bulk_len el
    simp only [Rows.uptoBulk]
    omega
theorem bulk_elem {H : Type} {D : Nat → DataW H} {len i : Nat} {spr : List (DataW H)} (hi : i < len) : Rows.uptoBulk (D i) ≤ Rows.uptoBulk (.slice ((List.range len).map D) spr) := by
  have := bulk_part (List.mem_map.2 ⟨i, List.mem_range.2 hi, rfl⟩ : D i ∈ (List.range len).map D)
  simp only [Rows.uptoBulk]
  omega
theorem small_of_bulk {H : Type} {l : List (DataW H)} (hk : Rows.uptoSmall H l = true) {d : DataW H} (hd : d ∈ l) {n : Nat} (h : n ≤ Rows.uptoBulk d) : n ≤ 1048576 := by
  have hb : Rows.uptoBulkAll l ≤ 1048576 := of_decide_eq_true hk
  have hp := bulk_part hd
  omega
section
variable {H : Type} {enc : TypeId × Value → H} {P : Program} {W : World} {base : Nat} {sp : Nat → Bool} {held : Bool}
theorem open_txts {t e : TypeId} {a : Option Addr} {len cap : Nat} {d : DataW H} {ps : List MemPlace} (ht : P.underlying t = some (.slice e)) (he : P.underlying e = some .string) (ce : P.cellsOf e = 1)
    (h : DataW.Trod enc P W base sp held t (.slice a len cap) d ps) :
    ∃ L : List ByteArray, Txts W (.slice a len cap) L ∧ (∀ i, (L.getD i ⟨#[]⟩).size ≤ 9223372036854775807) ∧ Long d L.length ∧ ∀ i, (L.getD i ⟨#[]⟩).size ≤ Rows.uptoBulk d := by
  obtain ⟨fuel, hf⟩ := h
  rcases Deep.open_slice1 ht ce hf with ⟨hcs, hx⟩ | ⟨x, l, c, m, n, V, D, Pl, hcs, _, hl, hm, hmm, hx, hall⟩
  · simp [Value.cells] at hcs
    obtain ⟨rfl, rfl, rfl⟩ := hcs
    simp at hx
    exact ⟨[], ⟨none, 0, 0, 0, rfl, by simp, by simp, by simp, by simp⟩, fun i => by simp [ByteArray.size], .inl ⟨hx.1, rfl⟩, fun i => by simp [ByteArray.size]⟩
  · simp [Value.cells] at hcs
    obtain ⟨rfl, rfl, rfl⟩ := hcs
    have hlm : len ≤ m := by rw [hmm]; split <;> omega
    obtain ⟨rfl, _⟩ := Prod.mk.inj hx
    have each : ∀ i, i < len → ∃ q : ByteArray, V i = .string q ∧ q.size ≤ 9223372036854775807 ∧ q.size ≤ Rows.uptoBulk (D i) := fun i hi => by
      obtain ⟨h1, h2⟩ := hall i (by omega)
      obtain ⟨s, h3, h4, h5⟩ := DataW.trod_string he h2
      have h6 := congrArg Prod.fst h4
      refine ⟨s, by simpa using h3, by simpa [maxLen] using h5, ?_⟩
      rw [show D i = .lit (.string s.data.toList) from h6]
      have hs : s.data.toList.length = s.size := by simp
      simp only [Rows.uptoBulk]
      omega
    let q : Nat → ByteArray := fun i => if hi : i < len then (each i hi).choose else ⟨#[]⟩
    have hq : ∀ i, i < len → V i = .string (q i) ∧ (q i).size ≤ 9223372036854775807 ∧ (q i).size ≤ Rows.uptoBulk (D i) := fun i hi => by
      have := (each i hi).choose_spec
      simp only [q, dif_pos hi]
      exact this
    have hlen : ((List.range len).map q).length = len := by simp
    have hget : ∀ i, i < len → ((List.range len).map q).getD i ⟨#[]⟩ = q i := fun i hi => by simp [List.getD, hi]
    have hget' : ∀ i, ¬ i < len → ((List.range len).map q).getD i ⟨#[]⟩ = ⟨#[]⟩ := fun i hi => by simp only [List.getD]; rw [List.getElem?_eq_none (by rw [hlen]; omega)]; rfl
    refine ⟨(List.range len).map q, ⟨some x, cap, x.block, x.off, by rw [hlen], by omega, by simpa [maxLen] using hm, fun hp => ?_, fun i hi => ?_⟩, fun i => ?_, .inr ⟨_, _, rfl, by simp⟩, fun i => ?_⟩
    · rw [hlen] at hp
      exact congrArg some (addr_of_cell (hall 0 (by omega)).1)
    · rw [hlen] at hi
      have hx' := addr_of_cell (hall 0 (by omega)).1
      have g0 := (hall i (by omega)).1
      rw [hx', Addr.add_lit, (hq i hi).1] at g0
      rw [hget i hi]
      exact later g0
    · by_cases hi : i < len
      · rw [hget i hi]; exact (hq i hi).2.1
      · rw [hget' i hi]; simp [ByteArray.size]
    · by_cases hi : i < len
      · rw [hget i hi]; exact Nat.le_trans (hq i hi).2.2 (bulk_elem hi)
      · rw [hget' i hi]; simp [ByteArray.size]
end
end Go.Proofs.YtpifkinlaicliaaGreatDoor
/-
  NamesFinds: for every input of bulk at most 1048576 it returns true and leaves what was as it was: no condition beside the bound; the two tables of package utf8 that its row lists are tied to the program's text by the given tie.
-/









namespace Go.Proofs.YtpifkinlaicliaaGreatDoor.namesFinds
open Go.ChangeShapes Go.WideShapes Go.ChangeAt Go.RowKit
open Go.ChangeMaps (open_string shut_string)
set_option linter.unusedVariables false

theorem own : ownKnob Tryz.prog.godebug = none := by kernel_rfl
theorem laidOut : laidOutB Tryz.prog = true := by kernel_rfl

theorem witness_row (os : Os) {H : Type} (enc : TypeId × Value → H) :
    (Rows.OpenSpec.upto Rows.namesFindsSpec).preRow enc Tryz.prog Tryz.f3 Rows.namesFindsUptoRow.domain false Rows.namesFindsUptoRow.laid ((laidWorld os).forCall (fun _ _ => 0) ⟨#[], #[.slice none 0 0, .slice none 0 0, .int .i64 0], []⟩).memory #[.slice none 0 0, .slice none 0 0, .int .i64 0] := by
  have hw : (DataW.whole enc Tryz.prog ((laidWorld os).forCall (fun _ _ => 0) ⟨#[], #[.slice none 0 0, .slice none 0 0, .int .i64 0], []⟩).memory Tryz.f3.params.toList (Rows.OpenSpec.upto Rows.namesFindsSpec).vars false (#[.slice none 0 0, .slice none 0 0, .int .i64 0] : Array Value).toList 8).map (fun x => (x.1, x.2.1)) =
      some ([.nil, .nil, .lit (.int .i64 0)], []) := by kernel_rfl
  obtain ⟨⟨x1, x2, x3⟩, hx, hx1⟩ := Option.map_eq_some_iff.1 hw
  simp only [Prod.mk.injEq] at hx1
  obtain ⟨rfl, rfl⟩ := hx1
  exact OpenSpec.preRow_of_cond 8 hx (by kernel_rfl) (fun k hk => by cases hk; kernel_rfl) (by kernel_rfl) (laid_met os _)

set_option maxRecDepth 100000 in
set_option maxHeartbeats 2000000 in
theorem lifted (os : Os) (started : os.Started) (H : Type) (enc : TypeId × Value → H) (F : Stop.Interp) :
    ReturnsInHanded {} Tryz.checked os 3 .any ((Rows.OpenSpec.upto Rows.namesFindsSpec).preRow enc Tryz.prog Tryz.f3 Rows.namesFindsUptoRow.domain false Rows.namesFindsUptoRow.laid) (((Rows.OpenSpec.upto Rows.namesFindsSpec).at F).post enc Tryz.prog Tryz.f3 false true false false) := by
  refine returnsInHanded_of_row (C := Tryz.checked) (s := (Rows.OpenSpec.upto Rows.namesFindsSpec)) own started (by kernel_rfl) Tryz.func3
    (witness_row_atRef (enc := enc) (C := Tryz.checked) false (laidWorld os) #[.slice none 0 0, .slice none 0 0, .int .i64 0] rfl (by kernel_rfl) (by kernel_rfl) (by kernel_rfl) (witness_row os enc)) ?_
  intro W base args ds gs before hval0 hW _ hcond hsz0 hL _ _
  have hval : ∀ (j : Nat) t v, Tryz.f3.params[j]? = some t → args[j]? = some v → Value.okWide Tryz.prog W .any base t v := hval0
  have hW' := hW
  have hT : Tabs W := tabs_of hL (.tail _ (.head _)) (.head _)
  obtain ⟨p, q, hA0, hV, rfl, hfz, hnd⟩ := hW
  have hA : DataW.TrodAll enc Tryz.prog W 0 (fun _ => true) true Tryz.f3.params.toList args.toList ds p := hA0
  obtain ⟨rfl, rfl⟩ := trodVars_none hV
  have hsz : (DataW.weightsEach Tryz.prog Tryz.f3.params.toList ds).all (· ≤ reachBytes) = true := by
    have e1 : Tryz.f3.params.toList ++ (Rows.OpenSpec.upto Rows.namesFindsSpec).bare.plain.varTypes Tryz.checked.prog = Tryz.f3.params.toList := List.append_nil _
    rw [e1, List.append_nil] at hsz0
    exact hsz0
  have hk := hcond _ rfl
  rw [List.append_nil] at hk
  clear hsz0 hcond hL
  rw [Tryz.params3] at hA hval hsz
  obtain ⟨v0, vs0, d0, ds0, p0, q0, hargs, rfl, rfl, h0, r0⟩ := trodAll_cons hA
  obtain ⟨v1, vs1, d1, ds1, p1, q1, rfl, rfl, rfl, h1, r1⟩ := trodAll_cons r0
  obtain ⟨v2, vs2, d2, ds2, p2, q2, rfl, rfl, rfl, h2, r2⟩ := trodAll_cons r1
  obtain ⟨rfl, rfl, rfl⟩ := trodAll_nil r2
  obtain rfl : args = #[v0, v1, v2] := by cases args; simp_all
  obtain ⟨a0, len0, cap0, rfl⟩ := okWide_slice Tryz.underlying22 (hval 0 22 v0 rfl rfl)
  have k0 := h0
  have lt0 : ∀ x ∈ p0, x.block < W.heap.size := by obtain ⟨m, hm⟩ := k0; exact DataW.trod_lt m _ _ _ hm
  obtain ⟨l0, g0, b0, s0, u0⟩ := open_txts Tryz.underlying22 Tryz.underlying9 (by kernel_rfl) h0
  have z0 := s0.le hsz (j := 0) rfl rfl Tryz.underlying22 (b := 16) (by kernel_rfl)
  have y0 := long_small hk (d := d0) (by simp) s0
  have y0' := fun i => small_of_bulk hk (d := d0) (by simp) (u0 i)
  obtain ⟨a1, len1, cap1, rfl⟩ := okWide_slice Tryz.underlying22 (hval 1 22 v1 rfl rfl)
  have k1 := h1
  have lt1 : ∀ x ∈ p1, x.block < W.heap.size := by obtain ⟨m, hm⟩ := k1; exact DataW.trod_lt m _ _ _ hm
  obtain ⟨l1, g1, b1, s1, u1⟩ := open_txts Tryz.underlying22 Tryz.underlying9 (by kernel_rfl) h1
  have z1 := s1.le hsz (j := 1) rfl rfl Tryz.underlying22 (b := 16) (by kernel_rfl)
  have y1 := long_small hk (d := d1) (by simp) s1
  have y1' := fun i => small_of_bulk hk (d := d1) (by simp) (u1 i)
  obtain ⟨l2, rfl, rfl, rfl, w2⟩ := open_int Tryz.underlying3 (hval 2 3 v2 rfl rfl) h2
  have b2 := bounds_i64 w2
  clear hA0 hval0
  refine (Go.Proofs.YtpifkinlaicliaaGreatDoor.namesFinds_row_walk W hT l0 _ g0 (by omega) y0 y0' l1 _ g1 (by omega) y1 y1' l2 b2).mono fun e W' ⟨he, bel⟩ => ?_
  subst he
  exact ⟨_, rfl, _, _, _, [], _, [], hW', trodAll_mk1 (shut_bool Tryz.underlying4 _), (trodAll_cons_mk (Below.trod laidOut (by kernel_rfl) (of_decide_eq_true (by kernel_rfl)) k0 bel lt0) (trodAll_cons_mk (Below.trod laidOut (by kernel_rfl) (of_decide_eq_true (by kernel_rfl)) k1 bel lt1) (trodAll_cons_mk (shut_int Tryz.underlying3 w2) trodAll_mk0))), rfl, bel.frame _, fun h => by cases h⟩

theorem said : Rows.NamesFindsUptoSaid :=
  OpenClaim.holds_of_cond 3 Tryz.f3 rfl rfl rfl rfl rfl rfl rfl ⟨rfl, rfl, rfl, rfl, rfl⟩ rfl rfl rfl rfl rfl (by kernel_rfl) Tryz.func3 (by kernel_rfl)
    (of_decide_eq_true (by kernel_rfl)) (by unfold Func.isWrapper; first | (rw [if_pos (by decide +kernel)]; kernel_rfl) | (rw [if_neg (by decide +kernel)]; exact ⟨rfl, rfl⟩))
    (fun os started H enc _ F => by rw [OpenClaim.pre_eq_preRow]; exact lifted os started H enc F)

theorem plain (f : FuncId) (fn : Func) (hf : Tryz.pinned.checked.prog.funcNamed Rows.namesFindsUptoRow.func = some f) (hfn : Tryz.pinned.checked.prog.funcs[f]? = some fn) :
    true = Tryz.pinned.checked.prog.looks [] ∧ ∀ (j : Nat) t, fn.params[j]? = some t → Tryz.pinned.checked.prog.wantsStandIn t = false := by
  obtain rfl : f = 3 := Option.some.inj ((show Tryz.prog.funcNamed Rows.namesFindsUptoRow.func = some 3 by kernel_rfl).symm.trans hf) |>.symm
  obtain rfl : fn = Tryz.f3 := (Option.some.inj (Tryz.func3.symm.trans hfn)).symm
  refine ⟨by kernel_rfl, fun j t ht => ?_⟩
  have hall : (Tryz.f3.params.all fun t => !Tryz.prog.wantsStandIn t) = true := by kernel_rfl
  have := Array.all_eq_true'.1 hall t (Array.mem_of_getElem? ht)
  exact (Bool.not_eq_eq_eq_not.mp this)

theorem proved : Rows.NamesFindsUptoCardSaid :=
  Claim7.holds_tied_plain_at .later [] _ _ _ _ said (fun _ h => by cases h) (by kernel_rfl) (fun _ h => by cases h) namesFindsUpto_row_tie rfl ⟨rfl, rfl⟩ (by kernel_rfl) rfl plain (by kernel_rfl)
#print axioms proved
end Go.Proofs.YtpifkinlaicliaaGreatDoor.namesFinds
