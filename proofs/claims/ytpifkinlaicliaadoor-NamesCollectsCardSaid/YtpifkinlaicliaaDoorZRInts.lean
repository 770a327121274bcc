/-
  WHAT THE BOUND OF THE SECOND FORM GIVES: the length of a slice that came in.
-/
import Derived.Test.YtpifkinlaicliaaDoorRows
import Derived.Test.YtpifkinlaicliaaDoorZOpen
import Derived.Test.YtpifkinlaicliaaDoorZNums
import Derived.Lib.LaidTab
import Derived.Test.YtpifkinlaicliaaDoorZTab
import Derived.Deep.Slices
import Derived.SliceStrings
import Derived.ChangeMaps5
import Derived.Test.YtpifkinlaicliaaDoorZQuiet
import Derived.Lib.LaidIn
import Derived.Lib.LaidU8T
import Derived.Deep.DeepHandedRow
import Derived.Deep.DeepWitnessRowRef
import Derived.ProofKit
import Derived.Test.YtpifkinlaicliaaDoorCards
import Derived.Test.YtpifkinlaicliaaDoorTie
import Derived.Test.YtpifkinlaicliaaDoorZNamesFoundWalk
import Derived.ShutString
import Derived.ChangeOld
import Derived.Carry
import Derived.Test.YtpifkinlaicliaaDoorZBase
import Derived.Test.YtpifkinlaicliaaDoorProg
import Derived.Deep.DeepCutAuto
namespace Go.Proofs.YtpifkinlaicliaaDoor
open Go.RowKit

theorem bulk_pos {H : Type} (d : DataW H) : 1 ≤ Rows.uptoBulk d := by
  cases d with
  | lit l => cases l <;> simp [Rows.uptoBulk]
  | _ => simp [Rows.uptoBulk]
theorem bulk_len {H : Type} : ∀ l : List (DataW H), l.length ≤ Rows.uptoBulkAll l
  | [] => by simp [Rows.uptoBulkAll]
  | x :: r => by have := bulk_pos x; have := bulk_len r; simp only [Rows.uptoBulkAll, List.length_cons]; omega
theorem bulk_part {H : Type} {d : DataW H} : ∀ {l : List (DataW H)}, d ∈ l → Rows.uptoBulk d ≤ Rows.uptoBulkAll l
  | x :: r, h => by
    simp only [Rows.uptoBulkAll]
    rcases List.mem_cons.1 h with e | e
    · subst e; omega
    · have := bulk_part e; omega
theorem long_small {H : Type} {l : List (DataW H)} (hk : Rows.uptoSmall H l = true) {d : DataW H} (hd : d ∈ l) {n : Nat} (h : Long d n) : n ≤ 1048576 := by
  have hb : Rows.uptoBulkAll l ≤ 1048576 := of_decide_eq_true hk
  have hp := bulk_part hd
  rcases h with ⟨_, rfl⟩ | ⟨el, spr, rfl, rfl⟩
  · omega
  · have := bulk_len el
    simp only [Rows.uptoBulk] at hp
    omega
theorem str_small {H : Type} {l : List (DataW H)} (hk : Rows.uptoSmall H l = true) {s : ByteArray} (h : (DataW.lit (.string s.data.toList) : DataW H) ∈ l) : s.size ≤ 1048576 := by
  have hb : Rows.uptoBulkAll l ≤ 1048576 := of_decide_eq_true hk
  have hp := bulk_part h
  have hs : s.data.toList.length = s.size := by simp
  simp only [Rows.uptoBulk] at hp
  omega
end Go.Proofs.YtpifkinlaicliaaDoor
/-
  OPENING ARGUMENTS: a slice of texts; its bulk.
-/






namespace Go.Proofs.YtpifkinlaicliaaDoor
open Go.RowKit Go.ChangeShapes Go.WideShapes
theorem long_bulk {H : Type} {d : DataW H} {n : Nat} (h : Long d n) : n ≤ Rows.uptoBulk d := by
  rcases h with ⟨_, rfl⟩ | ⟨el, spr, rfl, rfl⟩
  · omega
  · have := bulk_len el
    simp only [Rows.uptoBulk]
    omega
theorem bulk_elem {H : Type} {D : Nat → DataW H} {len i : Nat} {spr : List (DataW H)} (hi : i < len) : Rows.uptoBulk (D i) ≤ Rows.uptoBulk (.slice ((List.range len).map D) spr) := by
  have := bulk_part (List.mem_map.2 ⟨i, List.mem_range.2 hi, rfl⟩ : D i ∈ (List.range len).map D)
  simp only [Rows.uptoBulk]
  omega
theorem small_of_bulk {H : Type} {l : List (DataW H)} (hk : Rows.uptoSmall H l = true) {d : DataW H} (hd : d ∈ l) {n : Nat} (h : n ≤ Rows.uptoBulk d) : n ≤ 1048576 := by
  have hb : Rows.uptoBulkAll l ≤ 1048576 := of_decide_eq_true hk
  have hp := bulk_part hd
  omega
section
variable {H : Type} {enc : TypeId × Value → H} {P : Program} {W : World} {base : Nat} {sp : Nat → Bool} {held : Bool}
theorem open_txts {t e : TypeId} {a : Option Addr} {len cap : Nat} {d : DataW H} {ps : List MemPlace} (ht : P.underlying t = some (.slice e)) (he : P.underlying e = some .string) (ce : P.cellsOf e = 1)
    (h : DataW.Trod enc P W base sp held t (.slice a len cap) d ps) :
    ∃ L : List ByteArray, Txts W (.slice a len cap) L ∧ (∀ i, (L.getD i ⟨#[]⟩).size ≤ 9223372036854775807) ∧ Long d L.length ∧ ∀ i, (L.getD i ⟨#[]⟩).size ≤ Rows.uptoBulk d := by
  obtain ⟨fuel, hf⟩ := h
  rcases Deep.open_slice1 ht ce hf with ⟨hcs, hx⟩ | ⟨x, l, c, m, n, V, D, Pl, hcs, _, hl, hm, hmm, hx, hall⟩
  · simp [Value.cells] at hcs
    obtain ⟨rfl, rfl, rfl⟩ := hcs
    simp at hx
    exact ⟨[], ⟨none, 0, 0, 0, rfl, by simp, by simp, by simp, by simp⟩, fun i => by simp [ByteArray.size], .inl ⟨hx.1, rfl⟩, fun i => by simp [ByteArray.size]⟩
  · simp [Value.cells] at hcs
    obtain ⟨rfl, rfl, rfl⟩ := hcs
    have hlm : len ≤ m := by rw [hmm]; split <;> omega
    obtain ⟨rfl, _⟩ := Prod.mk.inj hx
    have each : ∀ i, i < len → ∃ q : ByteArray, V i = .string q ∧ q.size ≤ 9223372036854775807 ∧ q.size ≤ Rows.uptoBulk (D i) := fun i hi => by
      obtain ⟨h1, h2⟩ := hall i (by omega)
      obtain ⟨s, h3, h4, h5⟩ := DataW.trod_string he h2
      have h6 := congrArg Prod.fst h4
      refine ⟨s, by simpa using h3, by simpa [maxLen] using h5, ?_⟩
      rw [show D i = .lit (.string s.data.toList) from h6]
      have hs : s.data.toList.length = s.size := by simp
      simp only [Rows.uptoBulk]
      omega
    let q : Nat → ByteArray := fun i => if hi : i < len then (each i hi).choose else ⟨#[]⟩
    have hq : ∀ i, i < len → V i = .string (q i) ∧ (q i).size ≤ 9223372036854775807 ∧ (q i).size ≤ Rows.uptoBulk (D i) := fun i hi => by
      have := (each i hi).choose_spec
      simp only [q, dif_pos hi]
      exact this
    have hlen : ((List.range len).map q).length = len := by simp
    have hget : ∀ i, i < len → ((List.range len).map q).getD i ⟨#[]⟩ = q i := fun i hi => by simp [List.getD, hi]
    have hget' : ∀ i, ¬ i < len → ((List.range len).map q).getD i ⟨#[]⟩ = ⟨#[]⟩ := fun i hi => by simp only [List.getD]; rw [List.getElem?_eq_none (by rw [hlen]; omega)]; rfl
    refine ⟨(List.range len).map q, ⟨some x, cap, x.block, x.off, by rw [hlen], by omega, by simpa [maxLen] using hm, fun hp => ?_, fun i hi => ?_⟩, fun i => ?_, .inr ⟨_, _, rfl, by simp⟩, fun i => ?_⟩
    · rw [hlen] at hp
      exact congrArg some (addr_of_cell (hall 0 (by omega)).1)
    · rw [hlen] at hi
      have hx' := addr_of_cell (hall 0 (by omega)).1
      have g0 := (hall i (by omega)).1
      rw [hx', Addr.add_lit, (hq i hi).1] at g0
      rw [hget i hi]
      exact later g0
    · by_cases hi : i < len
      · rw [hget i hi]; exact (hq i hi).2.1
      · rw [hget' i hi]; simp [ByteArray.size]
    · by_cases hi : i < len
      · rw [hget i hi]; exact Nat.le_trans (hq i hi).2.2 (bulk_elem hi)
      · rw [hget' i hi]; simp [ByteArray.size]
end
end Go.Proofs.YtpifkinlaicliaaDoor
/-
  THE TWO TABLES OF PACKAGE utf8, AS THIS SEAT's ROWS LIST THEM: what the list gives; a world that holds them.
-/







namespace Go.Proofs.YtpifkinlaicliaaDoor
open Go.Shelf Go.Lib Go.RowKit

theorem first_eq : (Rows.laid_unicode_utf8_first : DataW Unit) = Lib.firstData := by kernel_rfl
theorem accept_eq : (Rows.laid_unicode_utf8_acceptRanges : DataW Unit) = Lib.acceptData := by kernel_rfl
theorem utf8Tabs_old {w W : World} {a b : Nat} (h : Lib.Utf8Tabs a b w) (o : Old w W) : Lib.Utf8Tabs a b W :=
  ⟨fun c hc => o.cell (h.1 c hc), fun i hi => ⟨o.cell (h.2 i hi).1, o.cell (h.2 i hi).2⟩⟩
theorem tabs_of {l : List (String × DataW Unit)} {W : World} (h : laidMet Tryd.prog l W) (h1 : ("unicode/utf8.first", (Rows.laid_unicode_utf8_first : DataW Unit)) ∈ l) (h2 : ("unicode/utf8.acceptRanges", (Rows.laid_unicode_utf8_acceptRanges : DataW Unit)) ∈ l) : Tabs W := by
  have r1 := Lib.laidMet.reads h h1
  have r2 := Lib.laidMet.reads h h2
  rw [first_eq] at r1
  rw [accept_eq] at r2
  have := utf8Tabs_of_readsT (U8Types.of260 Tryd.lays260) ⟨by kernel_rfl, by kernel_rfl, by kernel_rfl, by kernel_rfl, by kernel_rfl, by kernel_rfl, by kernel_rfl⟩ r1 r2
  exact fun V o => utf8Tabs_old this o
noncomputable def laidWorld (os : Os) : World :=
  let w0 := World.holding Tryd.prog os ⟨#[], #[], []⟩
  let put (h : Array Obj) (g : Nat) (cs : Array Value) : Array Obj := h.modify g fun
    | .cells _ t frozen => .cells cs t frozen
    | o => o
  let h1 := put w0.heap 0 (Lib.firstTab.map fun z => Value.int .u8 z).toArray
  let h2 := put h1 1 ((List.range 16).flatMap fun i => [Value.int .u8 (Lib.accLo i), Value.int .u8 (Lib.accHi i)]).toArray
  { w0 with heap := h2 }
theorem laid_met (os : Os) (args : Array Value) : laidMet Tryd.prog [("unicode/utf8.acceptRanges", (Rows.laid_unicode_utf8_acceptRanges : DataW Unit)), ("unicode/utf8.first", Rows.laid_unicode_utf8_first)] ((laidWorld os).forCall (fun _ _ => 0) ⟨#[], args, []⟩).memory := by
  rw [first_eq, accept_eq]
  exact (LaidIn.of_run (l := [("unicode/utf8.acceptRanges", Lib.acceptData), ("unicode/utf8.first", Lib.firstData)]) [1, 0] 8 (by kernel_rfl) (by kernel_rfl) (by kernel_rfl) (by kernel_rfl)).met
end Go.Proofs.YtpifkinlaicliaaDoor
/-
  NamesFound: for every input it returns true and leaves what was as it was: no condition; the two tables of package utf8 that its row lists are tied to the program's text by the given tie.
-/








namespace Go.Proofs.YtpifkinlaicliaaDoor.namesFound
open Go.ChangeShapes Go.WideShapes Go.ChangeAt Go.RowKit
open Go.ChangeMaps (open_string shut_string)
set_option linter.unusedVariables false

theorem own : ownKnob Tryd.prog.godebug = none := by kernel_rfl
theorem laidOut : laidOutB Tryd.prog = true := by kernel_rfl

theorem witness_row (os : Os) {H : Type} (enc : TypeId × Value → H) :
    (OpenSpec.ofChange Rows.namesFoundSpec).preRow enc Tryd.prog Tryd.f3 Rows.namesFoundRow.domain false Rows.namesFoundRow.laid ((laidWorld os).forCall (fun _ _ => 0) ⟨#[], #[.slice none 0 0], []⟩).memory #[.slice none 0 0] := by
  have hw : (DataW.whole enc Tryd.prog ((laidWorld os).forCall (fun _ _ => 0) ⟨#[], #[.slice none 0 0], []⟩).memory Tryd.f3.params.toList (OpenSpec.ofChange Rows.namesFoundSpec).vars false (#[.slice none 0 0] : Array Value).toList 8).map (fun x => (x.1, x.2.1)) =
      some ([.nil], []) := by kernel_rfl
  obtain ⟨⟨x1, x2, x3⟩, hx, hx1⟩ := Option.map_eq_some_iff.1 hw
  simp only [Prod.mk.injEq] at hx1
  obtain ⟨rfl, rfl⟩ := hx1
  exact OpenSpec.preRow_of_cond 8 hx (by kernel_rfl) (fun k hk => by cases hk) (by kernel_rfl) (laid_met os _)

set_option maxRecDepth 100000 in
set_option maxHeartbeats 2000000 in
theorem lifted (os : Os) (started : os.Started) (H : Type) (enc : TypeId × Value → H) (F : Stop.Interp) :
    ReturnsInHanded {} Tryd.checked os 3 .any ((OpenSpec.ofChange Rows.namesFoundSpec).preRow enc Tryd.prog Tryd.f3 Rows.namesFoundRow.domain false Rows.namesFoundRow.laid) (((OpenSpec.ofChange Rows.namesFoundSpec).at F).post enc Tryd.prog Tryd.f3 false true false false) := by
  refine returnsInHanded_of_row (C := Tryd.checked) (s := (OpenSpec.ofChange Rows.namesFoundSpec)) own started (by kernel_rfl) Tryd.func3
    (witness_row_atRef (enc := enc) (C := Tryd.checked) false (laidWorld os) #[.slice none 0 0] rfl (by kernel_rfl) (by kernel_rfl) (by kernel_rfl) (witness_row os enc)) ?_
  intro W base args ds gs before hval0 hW _ hcond hsz0 hL _ _
  have hval : ∀ (j : Nat) t v, Tryd.f3.params[j]? = some t → args[j]? = some v → Value.okWide Tryd.prog W .any base t v := hval0
  have hW' := hW
  have hT : Tabs W := tabs_of hL (.tail _ (.head _)) (.head _)
  obtain ⟨p, q, hA0, hV, rfl, hfz, hnd⟩ := hW
  have hA : DataW.TrodAll enc Tryd.prog W 0 (fun _ => true) true Tryd.f3.params.toList args.toList ds p := hA0
  obtain ⟨rfl, rfl⟩ := trodVars_none hV
  have hsz : (DataW.weightsEach Tryd.prog Tryd.f3.params.toList ds).all (· ≤ reachBytes) = true := by
    have e1 : Tryd.f3.params.toList ++ (OpenSpec.ofChange Rows.namesFoundSpec).bare.plain.varTypes Tryd.checked.prog = Tryd.f3.params.toList := List.append_nil _
    rw [e1, List.append_nil] at hsz0
    exact hsz0
  clear hsz0 hcond hL
  rw [Tryd.params3] at hA hval hsz
  obtain ⟨v0, vs0, d0, ds0, p0, q0, hargs, rfl, rfl, h0, r0⟩ := trodAll_cons hA
  obtain ⟨rfl, rfl, rfl⟩ := trodAll_nil r0
  obtain rfl : args = #[v0] := by cases args; simp_all
  obtain ⟨a0, len0, cap0, rfl⟩ := okWide_slice Tryd.underlying22 (hval 0 22 v0 rfl rfl)
  have k0 := h0
  have lt0 : ∀ x ∈ p0, x.block < W.heap.size := by obtain ⟨m, hm⟩ := k0; exact DataW.trod_lt m _ _ _ hm
  obtain ⟨l0, g0, b0, s0, u0⟩ := open_txts Tryd.underlying22 Tryd.underlying9 (by kernel_rfl) h0
  have z0 := s0.le hsz (j := 0) rfl rfl Tryd.underlying22 (b := 16) (by kernel_rfl)
  clear hA0 hval0
  refine (Go.Proofs.YtpifkinlaicliaaDoor.namesFound_row_walk W hT l0 _ g0 (by omega)).mono fun e W' ⟨he, bel⟩ => ?_
  subst he
  exact ⟨_, rfl, _, _, _, [], _, [], hW', trodAll_mk1 (shut_bool Tryd.underlying4 _), (trodAll_cons_mk (Below.trod laidOut (by kernel_rfl) (of_decide_eq_true (by kernel_rfl)) k0 bel lt0) trodAll_mk0), rfl, bel.frame _, fun h => by cases h⟩

theorem said : Rows.NamesFoundSaid :=
  OpenClaim.holds_of_cond 3 Tryd.f3 rfl rfl rfl rfl rfl rfl rfl ⟨rfl, rfl, rfl, rfl, rfl⟩ rfl rfl rfl rfl rfl (by kernel_rfl) Tryd.func3 (by kernel_rfl)
    (of_decide_eq_true (by kernel_rfl)) (by unfold Func.isWrapper; first | (rw [if_pos (by decide +kernel)]; kernel_rfl) | (rw [if_neg (by decide +kernel)]; exact ⟨rfl, rfl⟩))
    (fun os started H enc _ F => by rw [OpenClaim.pre_eq_preRow]; exact lifted os started H enc F)

theorem plain (f : FuncId) (fn : Func) (hf : Tryd.pinned.checked.prog.funcNamed Rows.namesFoundRow.func = some f) (hfn : Tryd.pinned.checked.prog.funcs[f]? = some fn) :
    false = Tryd.pinned.checked.prog.looks [] ∧ ∀ (j : Nat) t, fn.params[j]? = some t → Tryd.pinned.checked.prog.wantsStandIn t = false := by
  obtain rfl : f = 3 := Option.some.inj ((show Tryd.prog.funcNamed Rows.namesFoundRow.func = some 3 by kernel_rfl).symm.trans hf) |>.symm
  obtain rfl : fn = Tryd.f3 := (Option.some.inj (Tryd.func3.symm.trans hfn)).symm
  refine ⟨by kernel_rfl, fun j t ht => ?_⟩
  have hall : (Tryd.f3.params.all fun t => !Tryd.prog.wantsStandIn t) = true := by kernel_rfl
  have := Array.all_eq_true'.1 hall t (Array.mem_of_getElem? ht)
  exact (Bool.not_eq_eq_eq_not.mp this)

theorem proved : Rows.NamesFoundCardSaid :=
  Claim7.holds_tied_plain_at .later [] _ _ _ _ said (fun _ h => by cases h) (by kernel_rfl) (fun _ h => by cases h) namesFound_row_tie rfl ⟨rfl, rfl⟩ (by kernel_rfl) rfl plain (by kernel_rfl)
#print axioms proved
end Go.Proofs.YtpifkinlaicliaaDoor.namesFound
/-
  THE DOCUMENT's Ints, at slices that are alike.
-/



namespace Go.Proofs.YtpifkinlaicliaaDoor
open Go.RowKit
attribute [local go_sem] Old.refl Old.alloc Old.drew Old.setCell OldW.old
set_option maxHeartbeats 1600000 in
theorem RInts_same (u v : Value) (l : List Int) (w : World) (hl : Ints w u l) (hm : Ints w v l) :
    Calls Tryd.prog 20 #[u, v] w fun e w' => e = .returned (.bool true) ∧ Old w w' := by
  obtain ⟨a1, c1, b1, off1, rfl, hc11, hc12, ha1, ht1⟩ := hl
  obtain ⟨a2, c2, b2, off2, rfl, hc21, hc22, ha2, ht2⟩ := hm
  have Ha1 := Lib.hid ha1
  have Ht1 := Lib.hid ht1
  have Ha2 := Lib.hid ha2
  have Ht2 := Lib.hid ht2
  clear ha1 ht1 ha2 ht2
  go_enter Tryd.func20, Tryd.ntmps20
  go_wp2_with fail
  go_loopw [13] (fun j wr => ∃ k : Nat, j = .int .i64 k ∧ k ≤ l.length ∧ Old w wr) (fun j _ => l.length - (intOf j).toNat)
  case atStart => exact ⟨0, rfl, Nat.zero_le _, Old.refl _⟩
  case round =>
    obtain ⟨k, rfl, hk, ho⟩ := hrel
    by_cases hlt : k < l.length
    · have hi : (k : Int) < l.length := by omega
      obtain rfl := Ha1.out (by omega)
      obtain rfl := Ha2.out (by omega)
      have k1 := fun V (o : Old wr V) => Ht1.out k hlt V (ho.trans o)
      have k2 := fun V (o : Old wr V) => Ht2.out k hlt V (ho.trans o)
      generalize ix l k = x at *
      go_upto_region 6 with fail
      refine wp_region_old (Old.refl _) (by kernel_rfl) (by kernel_rfl) ?_
      repeat (go_big_quiet_step (fail))
      refine wpQuiet_nil ?_
      rintro ⟨wq, hwq⟩
      dsimp only
      go_wp2_with fail
      go_roundw
      case rel => exact ⟨k + 1, by go_num, by omega, ho.trans hwq⟩
      case measure => simp [intOf]; omega
    · obtain rfl : k = l.length := by omega
      have hi : ¬ (l.length : Int) < l.length := by omega
      go_wp2_with fail
      go_ret
      exact ⟨rfl, ho⟩
end Go.Proofs.YtpifkinlaicliaaDoor
