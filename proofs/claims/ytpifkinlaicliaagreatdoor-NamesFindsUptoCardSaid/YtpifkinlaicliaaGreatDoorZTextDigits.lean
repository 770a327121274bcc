/-
  NamesNorms: for every input it returns true and leaves what was as it was: no condition; the two tables of package utf8 that its row lists are tied to the program's text by the given tie.
-/
import Derived.Test.YtpifkinlaicliaaGreatDoorCards
import Derived.Test.YtpifkinlaicliaaGreatDoorTie
import Derived.Test.YtpifkinlaicliaaGreatDoorZNamesNormsWalk
import Derived.Test.YtpifkinlaicliaaGreatDoorZLaid
import Derived.Test.YtpifkinlaicliaaGreatDoorZTextCompare2
import Derived.Lib.LaidTab
import Derived.ShutString
import Derived.ChangeOld
import Derived.Carry
import Derived.Test.YtpifkinlaicliaaGreatDoorZShelfP
import Derived.Test.YtpifkinlaicliaaGreatDoorZColR
import Derived.Test.YtpifkinlaicliaaGreatDoorZTab
import Derived.Test.YtpifkinlaicliaaGreatDoorZTextRefF
import Derived.Test.YtpifkinlaicliaaGreatDoorZTextElems2
import Derived.Lib.TrimAscii
namespace Go.Proofs.YtpifkinlaicliaaGreatDoor.namesNorms
open Go.ChangeShapes Go.WideShapes Go.ChangeAt Go.RowKit
open Go.ChangeMaps (open_string shut_string)
set_option linter.unusedVariables false

theorem own : ownKnob Tryz.prog.godebug = none := by kernel_rfl
theorem laidOut : laidOutB Tryz.prog = true := by kernel_rfl

theorem witness_row (os : Os) {H : Type} (enc : TypeId × Value → H) :
    (OpenSpec.ofChange Rows.namesNormsSpec).preRow enc Tryz.prog Tryz.f4 Rows.namesNormsRow.domain false Rows.namesNormsRow.laid ((laidWorld os).forCall (fun _ _ => 0) ⟨#[], #[.string ⟨#[]⟩, .slice none 0 0], []⟩).memory #[.string ⟨#[]⟩, .slice none 0 0] := by
  have hw : (DataW.whole enc Tryz.prog ((laidWorld os).forCall (fun _ _ => 0) ⟨#[], #[.string ⟨#[]⟩, .slice none 0 0], []⟩).memory Tryz.f4.params.toList (OpenSpec.ofChange Rows.namesNormsSpec).vars false (#[.string ⟨#[]⟩, .slice none 0 0] : Array Value).toList 8).map (fun x => (x.1, x.2.1)) =
      some ([.lit (.string []), .nil], []) := by kernel_rfl
  obtain ⟨⟨x1, x2, x3⟩, hx, hx1⟩ := Option.map_eq_some_iff.1 hw
  simp only [Prod.mk.injEq] at hx1
  obtain ⟨rfl, rfl⟩ := hx1
  exact OpenSpec.preRow_of_cond 8 hx (by kernel_rfl) (fun k hk => by cases hk) (by kernel_rfl) (laid_met os _)

set_option maxRecDepth 100000 in
set_option maxHeartbeats 2000000 in
theorem lifted (os : Os) (started : os.Started) (H : Type) (enc : TypeId × Value → H) (F : Stop.Interp) :
    ReturnsInHanded {} Tryz.checked os 4 .any ((OpenSpec.ofChange Rows.namesNormsSpec).preRow enc Tryz.prog Tryz.f4 Rows.namesNormsRow.domain false Rows.namesNormsRow.laid) (((OpenSpec.ofChange Rows.namesNormsSpec).at F).post enc Tryz.prog Tryz.f4 false true false false) := by
  refine returnsInHanded_of_row (C := Tryz.checked) (s := (OpenSpec.ofChange Rows.namesNormsSpec)) own started (by kernel_rfl) Tryz.func4
    (witness_row_atRef (enc := enc) (C := Tryz.checked) false (laidWorld os) #[.string ⟨#[]⟩, .slice none 0 0] rfl (by kernel_rfl) (by kernel_rfl) (by kernel_rfl) (witness_row os enc)) ?_
  intro W base args ds gs before hval0 hW _ hcond hsz0 hL _ _
  have hval : ∀ (j : Nat) t v, Tryz.f4.params[j]? = some t → args[j]? = some v → Value.okWide Tryz.prog W .any base t v := hval0
  have hW' := hW
  have hT : Tabs W := tabs_of hL (.tail _ (.head _)) (.head _)
  obtain ⟨p, q, hA0, hV, rfl, hfz, hnd⟩ := hW
  have hA : DataW.TrodAll enc Tryz.prog W 0 (fun _ => true) true Tryz.f4.params.toList args.toList ds p := hA0
  obtain ⟨rfl, rfl⟩ := trodVars_none hV
  have hsz : (DataW.weightsEach Tryz.prog Tryz.f4.params.toList ds).all (· ≤ reachBytes) = true := by
    have e1 : Tryz.f4.params.toList ++ (OpenSpec.ofChange Rows.namesNormsSpec).bare.plain.varTypes Tryz.checked.prog = Tryz.f4.params.toList := List.append_nil _
    rw [e1, List.append_nil] at hsz0
    exact hsz0
  clear hsz0 hcond hL
  rw [Tryz.params4] at hA hval hsz
  obtain ⟨v0, vs0, d0, ds0, p0, q0, hargs, rfl, rfl, h0, r0⟩ := trodAll_cons hA
  obtain ⟨v1, vs1, d1, ds1, p1, q1, rfl, rfl, rfl, h1, r1⟩ := trodAll_cons r0
  obtain ⟨rfl, rfl, rfl⟩ := trodAll_nil r1
  obtain rfl : args = #[v0, v1] := by cases args; simp_all
  obtain ⟨l0, rfl, rfl, rfl, w0⟩ := open_string Tryz.underlying9 (hval 0 9 v0 rfl rfl) h0
  obtain ⟨a1, len1, cap1, rfl⟩ := okWide_slice Tryz.underlying43 (hval 1 43 v1 rfl rfl)
  have k1 := h1
  have lt1 : ∀ x ∈ p1, x.block < W.heap.size := by obtain ⟨m, hm⟩ := k1; exact DataW.trod_lt m _ _ _ hm
  obtain ⟨l1, g1, u1⟩ := open_sqs h1 hsz (j := 1) rfl rfl
  clear hA0 hval0
  refine (Go.Proofs.YtpifkinlaicliaaGreatDoor.namesNorms_row_walk W hT l0 (by unfold maxLen at w0; omega) l1 _ g1 u1).mono fun e W' ⟨he, bel⟩ => ?_
  subst he
  exact ⟨_, rfl, _, _, _, [], _, [], hW', trodAll_mk1 (shut_bool Tryz.underlying4 _), (trodAll_cons_mk (shut_string Tryz.underlying9 w0) (trodAll_cons_mk (Below.trod laidOut (by kernel_rfl) (of_decide_eq_true (by kernel_rfl)) k1 bel lt1) trodAll_mk0)), rfl, bel.frame _, fun h => by cases h⟩

theorem said : Rows.NamesNormsSaid :=
  OpenClaim.holds_of_cond 4 Tryz.f4 rfl rfl rfl rfl rfl rfl rfl ⟨rfl, rfl, rfl, rfl, rfl⟩ rfl rfl rfl rfl rfl (by kernel_rfl) Tryz.func4 (by kernel_rfl)
    (of_decide_eq_true (by kernel_rfl)) (by unfold Func.isWrapper; first | (rw [if_pos (by decide +kernel)]; kernel_rfl) | (rw [if_neg (by decide +kernel)]; exact ⟨rfl, rfl⟩))
    (fun os started H enc _ F => by rw [OpenClaim.pre_eq_preRow]; exact lifted os started H enc F)

theorem plain (f : FuncId) (fn : Func) (hf : Tryz.pinned.checked.prog.funcNamed Rows.namesNormsRow.func = some f) (hfn : Tryz.pinned.checked.prog.funcs[f]? = some fn) :
    true = Tryz.pinned.checked.prog.looks [] ∧ ∀ (j : Nat) t, fn.params[j]? = some t → Tryz.pinned.checked.prog.wantsStandIn t = false := by
  obtain rfl : f = 4 := Option.some.inj ((show Tryz.prog.funcNamed Rows.namesNormsRow.func = some 4 by kernel_rfl).symm.trans hf) |>.symm
  obtain rfl : fn = Tryz.f4 := (Option.some.inj (Tryz.func4.symm.trans hfn)).symm
  refine ⟨by kernel_rfl, fun j t ht => ?_⟩
  have hall : (Tryz.f4.params.all fun t => !Tryz.prog.wantsStandIn t) = true := by kernel_rfl
  have := Array.all_eq_true'.1 hall t (Array.mem_of_getElem? ht)
  exact (Bool.not_eq_eq_eq_not.mp this)

theorem proved : Rows.NamesNormsCardSaid :=
  Claim7.holds_tied_plain_at .later [] _ _ _ _ said (fun _ h => by cases h) (by kernel_rfl) (fun _ h => by cases h) namesNorms_row_tie rfl ⟨rfl, rfl⟩ (by kernel_rfl) rfl plain (by kernel_rfl)
#print axioms proved
end Go.Proofs.YtpifkinlaicliaaGreatDoor.namesNorms
/-
  A TABLE's NAMES IN ORDER, ONE BY ONE: Each's iterator, and that what has come is a beginning of the row in order.
-/

namespace Go.Proofs.YtpifkinlaicliaaGreatDoor
open Go.RowKit
attribute [local go_sem] Old.refl Old.alloc Old.drew Old.setCell OldW.old Oper.semAt_some

set_option maxRecDepth 100000 in
set_option maxHeartbeats 2000000 in
theorem Each1_prefix (n : Nat) (p : Option Addr) (l : List ByteArray) (hl : Named l) (w0 w : World) (n₁ b1 b2 bx : Nat) (hH : Hdl w0 p l) (hT : Tabs w0) (h0w : Old w0 w) (hn1 : n₁ ≤ w.heap.size) (hn0 : w0.heap.size ≤ n₁) (hb1 : w0.heap.size ≤ b1) (hb2 : w0.heap.size ≤ b2)
    (hb1' : b1 < w.heap.size) (hb2' : b2 < w.heap.size) (hbx : bx < n₁) (hx1 : bx ≠ b1) (hx2 : bx ≠ b2) (hcx : w.cell? ⟨bx, 0, none⟩ = some (.pointer p)) (hown : ownOf b2 w = none) :
    SeqStopsK Fence.wide n Tryz.prog 66 #[.pointer (some ⟨bx, 0, none⟩)] (nmV l) (KpR n₁ b1 b2) (fun xs => xs.map Fin.val = sortedL l) (fun xs => ∃ k, xs.map Fin.val = (sortedL l).take k) 1001 w := fun y J Jx W hW hJ hJx hY h0 => by
  have hlen := hl.len
  have hcxW : W.cell? ⟨bx, 0, none⟩ = some (.pointer p) := (Below.cell hW (p := ⟨bx, 0, none⟩) (by simp; omega)).trans hcx
  have o0W : Old w0 W := h0w.trans hW
  have hownW : ownOf b2 W = none := (ownOf_block (hW.block b2 hb2')).trans hown
  have hWs := hW.size
  have HS := Lib.hid (Sorted_any p l hl W (hT.old o0W) (hH.old o0W))
  have HH := Lib.hid hH
  have hsl := sortedL_length l
  have Hlt := Lib.hid (fun i (h : i ∈ sortedL l) => sortedL_lt h)
  clear hT hH hl hcx hown
  generalize sortedL l = sl at *
  refine callsIn_of_wp Tryz.func66 rfl trivial ?_ rfl
  simp only [Tryz.ntmps66, List.size_toArray, List.length_cons, List.length_nil, Nat.reduceAdd, Nat.reduceSub, Array.replicate_succ, Array.replicate_zero, List.push_toArray, List.append_toArray, List.nil_append, List.cons_append]
  gi_wp2
  refine ⟨trivial, fun hd => by simp [Fence.wide] at hd, ?_⟩
  refine (callsIn_wide.2 HS.out).mono ?_
  rintro e w1 ⟨⟨u, rfl, hu⟩, o1⟩
  obtain ⟨a, cap, rfl, hc1, hc2⟩ := ownsRow_form hu
  have hul : (sl.map Int.ofNat).length = l.length := by rw [List.length_map, hsl]
  rw [hul] at hc1 hu ⊢
  have hJ1 : J [] w1 := hJ _ _ _ none h0 (Old.grownBy o1 none) (fun r e => by cases e)
  have hs1 := o1.size
  have hown1 : ownOf b2 w1 = none := (ownOf_block (o1.block b2 (by omega))).trans hownW
  have o01 : Old w0 w1 := o0W.trans o1
  have hc1x : w1.cell? ⟨bx, 0, none⟩ = some (.pointer p) := o1.cell hcxW
  clear HS hcxW hownW h0
  rcases Nat.eq_zero_or_pos l.length with hz | hz
  · have hi : ¬ (0 : Int) < l.length := by omega
    rw [hz]
    gi_wp2
    gi_loopw [8] (fun kv wr => kv = .int .i64 0 ∧ J [] wr) (fun _ _ => 0)
    case atStart => exact ⟨rfl, hJ1⟩
    case round =>
      obtain ⟨rfl, hJr⟩ := hrel
      gi_wp2
      go_end0
      refine ⟨⟨_, rfl⟩, .inl ⟨[], ?_, hJr⟩⟩
      rw [List.eq_nil_of_length_eq_zero (show sl.length = 0 by omega)]
      rfl
  · obtain ⟨g, rfl, hg1, hg2⟩ := hu.block (by rw [hul]; exact hz)
    obtain ⟨O, hO, hOc⟩ : ∃ O, w1.heap[g]? = some O ∧ O.isCells = true := by
      rcases hu.2 with ⟨e, _⟩ | ⟨g', c', cur, e, _, hgc, _⟩
      · cases e
      · simp at e
        obtain ⟨e1, _⟩ := e
        rw [e1]
        exact ⟨_, hgc, rfl⟩
    have hcell : ∀ V : World, V.heap[g]? = some O → ∀ k, k < l.length → V.cell? ⟨g, k, none⟩ = some (.int .i64 (sl.getD k 0 : Nat)) := fun V hV k hk => by
      rw [World.cell?_of_block (a := ⟨g, k, none⟩) (hV.trans hO.symm), hu.cell (k := k) (by rw [hul]; exact hk)]
      simp [ix, List.getD, show k < sl.length from by omega]
    rcases HH.out with ⟨_, e⟩ | ⟨c, rfl, ht⟩
    · rw [e] at hz; exact absurd hz (Nat.lt_irrefl 0)
    obtain ⟨v, ht0, hv⟩ := ht.names
    obtain ⟨bN, offN, capN, rfl, hcN1, hcN2, _⟩ := hv.at' hz
    have hvN : ∀ i, i < l.length → ∀ V, Old w0 V → V.cell? ⟨bN, offN + i, none⟩ = some (.string (nmAt l i)) := fun i hi => by
      obtain ⟨b', off', cap', e, _, _, hM⟩ := hv.at' hi
      obtain ⟨e1, _, rfl⟩ := Value.slice.inj e
      injection e1 with e1
      injection e1 with e1 e2
      subst e1; subst e2
      exact hM
    have Hcell := Lib.hid hcell
    have HvN := Lib.hid hvN
    have Ht0 := Lib.hid ht0
    have Hc1x := Lib.hid hc1x
    clear hu ht ht0 hv hcell hvN hc1x hc1 hc2 HH
    gi_wp2
    gi_loopw [8] (fun kv wr => ∃ (k : Nat) (pre : List (Fin l.length)), k ≤ l.length ∧ kv = .int .i64 k ∧ Hid (pre.map Fin.val = sl.take k) ∧ J pre wr ∧ KpR n₁ b1 b2 w1 wr ∧ wr.heap[g]? = some O ∧ ownOf b2 wr ≠ some g) (fun kv _ => l.length - (intOf kv).toNat)
    case atStart => exact ⟨0, [], Nat.zero_le _, rfl, Lib.hid rfl, hJ1, KpR.refl _ _ _ _, hO, by rw [hown1]; simp⟩
    case round =>
      obtain ⟨k, pre, hk, rfl, hpre, hJk, hkept, hOr, hne⟩ := hrel
      by_cases hlt : k < l.length
      · have hk1 : (k : Int) < l.length := by omega
        have hmem : sl.getD k 0 ∈ sl := by
          rw [show sl.getD k 0 = sl[k]'(by omega) from by simp [List.getD, show k < sl.length from by omega]]
          exact List.getElem_mem _
        have hil := Hlt.out _ hmem
        have hgk := Hcell.out wr hOr k hlt
        have Hsn := Lib.hid (take_snoc (l := sl) (k := k) (by omega))
        have o0r : Old w0 wr := hkept.old o01 hn0 hb1 hb2
        have htr := Ht0.out wr o0r
        have hbr : wr.cell? ⟨bx, 0, none⟩ = some (.pointer (some ⟨c, 0, none⟩)) := (hkept.cell (p := ⟨bx, 0, none⟩) hbx hx1 hx2).trans Hc1x.out
        generalize hi0 : sl.getD k 0 = i at *
        have hNr := HvN.out i hil wr o0r
        have hi1 : (i : Int) < l.length := by omega
        clear hmem
        obtain ⟨fn, tmps, assign, body, hy, hR⟩ := hY _ ⟨i, hil⟩ wr hJk (by have := congrArg List.length hpre.out; rw [List.length_map, List.length_take] at this; omega)
        unfold nmV at hy
        dsimp only at hy
        gi_wp2
        refine ⟨fun hd => by simp [Fence.wide] at hd, ?_⟩
        refine hR.mono ?_
        rintro e W3 (⟨rfl, hJ3, hk3⟩ | ⟨rfl, hJx3⟩)
        · gi_wp2
          go_roundw
          case rel =>
            refine ⟨k + 1, _, by omega, by go_num, Lib.hid (by rw [Hsn.out, List.map_append, hpre.out]; rfl), hJ3, hkept.trans hk3, hk3.cells g O hOr hOc (by omega) (by omega) hne, ?_⟩
            rcases hk3.own with h | h
            · rw [h]; exact hne
            · intro e; have := h g e; have := lt_of_heap hOr; omega
          case measure => simp [intOf]; omega
        · gi_wp2
          refine bodyPost_ret (results_none rfl _ _ _) rfl ?_
          exact ⟨⟨_, rfl⟩, .inr ⟨_, ⟨k + 1, by rw [Hsn.out, List.map_append, hpre.out]; rfl⟩, hJx3⟩⟩
      · obtain rfl : k = l.length := by omega
        have hk1 : ¬ (l.length : Int) < l.length := by omega
        have ht : sl.take l.length = sl := List.take_of_length_le (by omega)
        gi_wp2
        go_end0
        exact ⟨⟨_, rfl⟩, .inl ⟨_, by rw [hpre.out, ht], hJk⟩⟩
end Go.Proofs.YtpifkinlaicliaaGreatDoor
/-
  THE DOCUMENT's TABLE OF NAMES: as it lies; Begins.
-/


namespace Go.Proofs.YtpifkinlaicliaaGreatDoor
open Go.RowKit
attribute [local go_sem] Old.refl Old.alloc Old.drew Old.setCell OldW.old

/-- the document's table, by value -/
def RTabV (w : World) (v : Value) (l : List ByteArray) : Prop := ∃ u0 u1, v = .agg #[u0, u1] ∧ Txts w u0 l ∧ Txts w u1 (l.map nrm)
theorem RTabV.old {w W : World} {v : Value} {l : List ByteArray} (h : RTabV w v l) (o : Old w W) : RTabV W v l := by
  obtain ⟨u0, u1, e, h0, h1⟩ := h
  exact ⟨u0, u1, e, h0.old o, h1.old o⟩
set_option maxHeartbeats 800000 in
theorem RBegins_any (s p : ByteArray) (w : World) :
    Calls Tryz.prog 38 #[.string s, .string p] w fun e w' => e = .returned (.bool (decide (p.size ≤ s.size ∧ s.extract 0 p.size = p))) ∧ w = w' := by
  by_cases h : p.size ≤ s.size
  · have hi : (p.size : Int) ≤ s.size := by omega
    have hb := str_beqE (s.extract 0 p.size) p
    have hd : decide (p.size ≤ s.size ∧ s.extract 0 p.size = p) = decide (s.extract 0 p.size = p) := by simp [h]
    rw [hd]
    clear hd
    generalize decide (s.extract 0 p.size = p) = b at *
    go_enter Tryz.func38, Tryz.ntmps38
    go_wp2_with fail
    go_ret
    exact ⟨rfl, rfl⟩
  · have hi : ¬ (p.size : Int) ≤ s.size := by omega
    have hd : decide (p.size ≤ s.size ∧ s.extract 0 p.size = p) = false := by simp [h]
    rw [hd]
    clear hd
    go_enter Tryz.func38, Tryz.ntmps38
    go_wp2_with fail
    go_ret
    exact ⟨rfl, rfl⟩
end Go.Proofs.YtpifkinlaicliaaGreatDoor
/-
  TEXT, DIGITS: digits among bytes and among characters, over no program.
-/



namespace Go.Proofs.YtpifkinlaicliaaGreatDoor
open Go.RowKit

theorem drop_cons {l : List UInt8} {p : Nat} (hp : p < l.length) : l.drop p = l.getD p 0 :: l.drop (p + 1) := by
  rw [List.drop_eq_getElem_cons hp, List.getD_eq_getElem?_getD, List.getElem?_eq_getElem hp]; rfl
/-- a byte below 128 is a character -/
theorem chR_byte {l : List UInt8} {p : Nat} (hp : p < l.length) (h : (l.getD p 0).toNat < 128) : chR l p = (l.getD p 0).toNat ∧ chN l p = 1 := by
  unfold chR chN
  rw [drop_cons hp, Lib.decodeL_ascii _ _ h]
  exact ⟨rfl, rfl⟩
/-- a character below 128 is a byte -/
theorem chR_small {l : List UInt8} {p : Nat} (hp : p < l.length) (h : chR l p < 128) : (l.getD p 0).toNat = chR l p := by
  have hne : l.drop p ≠ [] := by
    intro e
    have := congrArg List.length e
    simp at this; omega
  have he : Lib.encodeRune (chR l p : Int) = (l.drop p).take (chN l p) := Lib.encode_decode (l.drop p) hne (fun k => by unfold chR at h; omega)
  rw [chN_ascii hp h] at he
  generalize chR l p = r at *
  unfold Lib.encodeRune at he
  rw [Lib.encodeRuneZ_one (by omega) (by omega), drop_cons hp] at he
  simp at he
  rw [List.getD_eq_getElem?_getD, ← he]
  simp
  omega
theorem digit_iff {l : List UInt8} {p : Nat} (hp : p < l.length) : inR (chR l p) 48 57 = isDg (l.getD p 0) := by
  rw [Bool.eq_iff_iff, inR_iff]
  unfold isDg
  simp only [Bool.and_eq_true, decide_eq_true_eq]
  constructor
  · rintro ⟨h1, h2⟩
    have := chR_small hp (by omega)
    omega
  · rintro ⟨h1, h2⟩
    have := (chR_byte hp (by omega)).1
    omega
theorem dgN_cons (b : UInt8) (l : List UInt8) : dgN (b :: l) = if isDg b then dgN l + 1 else 0 := by
  unfold dgN
  rw [List.takeWhile_cons]
  split <;> simp
theorem dgAt_on {s : ByteArray} {p : Nat} (hp : p < s.size) (h : isDg (s.data.toList.getD p 0) = true) : dgAt s p = dgAt s (p + 1) + 1 := by
  unfold dgAt
  rw [drop_cons (by rw [str_len]; exact hp), dgN_cons, if_pos h]
theorem dgAt_off {s : ByteArray} {p : Nat} (hp : p < s.size) (h : isDg (s.data.toList.getD p 0) = false) : dgAt s p = 0 := by
  unfold dgAt
  rw [drop_cons (by rw [str_len]; exact hp), dgN_cons, if_neg (by rw [h]; decide)]
theorem dgAt_end {s : ByteArray} {p : Nat} (hp : ¬ p < s.size) : dgAt s p = 0 := by
  unfold dgAt
  rw [List.drop_eq_nil_of_le (by rw [str_len]; omega)]; rfl
/-- the digits from p to q without noughts ahead, as bytes -/
def trimL (s : ByteArray) (p q : Nat) : List UInt8 := Lib.trimLeftB (s.extract p q).data.toList 48
theorem trimL_zero (s : ByteArray) (p : Nat) : trimL s p p = [] := by
  unfold trimL
  rw [extract_list, List.drop_eq_nil_of_le (by rw [List.length_take]; omega)]; rfl
theorem trimL_succ {s : ByteArray} {p q : Nat} (hpq : p ≤ q) (hq : q < s.size) :
    trimL s p (q + 1) = if trimL s p q = [] ∧ s.data.toList.getD q 0 = 48 then [] else trimL s p q ++ [s.data.toList.getD q 0] := by
  have h' : q < s.data.toList.length := by rw [str_len]; exact hq
  have he : (s.extract p (q + 1)).data.toList = (s.extract p q).data.toList ++ [s.data.toList.getD q 0] := by
    rw [extract_list, extract_list, List.take_succ_eq_append_getElem h', List.drop_append_of_le_length (by rw [List.length_take]; omega), List.getD_eq_getElem?_getD, List.getElem?_eq_getElem h']
    rfl
  unfold trimL Lib.trimLeftB
  rw [he, List.dropWhile_append]
  by_cases h : ((s.extract p q).data.toList.dropWhile (· == 48)).isEmpty = true
  · rw [if_pos h]
    have h0 : (s.extract p q).data.toList.dropWhile (· == 48) = [] := List.isEmpty_iff.1 h
    rw [h0]
    by_cases k : s.data.toList.getD q 0 = 48
    · rw [if_pos ⟨rfl, k⟩, k]; rfl
    · rw [if_neg (fun x => k x.2)]
      rw [List.dropWhile_cons, if_neg (by simpa using k)]; rfl
  · rw [if_neg h, if_neg (fun x => h (by rw [x.1]; rfl))]
theorem trimN_eq (s : ByteArray) (p q : Nat) : trimN s p q = strB (trimL s p q) := rfl
end Go.Proofs.YtpifkinlaicliaaGreatDoor
