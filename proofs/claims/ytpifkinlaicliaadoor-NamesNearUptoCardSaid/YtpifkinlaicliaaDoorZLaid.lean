/-
  WHAT THE BOUND OF THE SECOND FORM GIVES: the length of a slice that came in.
-/
import Derived.Test.YtpifkinlaicliaaDoorRows
import Derived.Test.YtpifkinlaicliaaDoorZOpen
import Derived.Test.YtpifkinlaicliaaDoorZNums
import Derived.Lib.LaidTab
import Derived.Test.YtpifkinlaicliaaDoorZTab
import Derived.Deep.Slices
import Derived.SliceStrings
import Derived.ChangeMaps5
import Derived.Test.YtpifkinlaicliaaDoorZQuiet
import Derived.Lib.LaidIn
import Derived.Lib.LaidU8T
import Derived.Deep.DeepHandedRow
import Derived.Deep.DeepWitnessRowRef
import Derived.ProofKit
namespace Go.Proofs.YtpifkinlaicliaaDoor
open Go.RowKit

theorem bulk_pos {H : Type} (d : DataW H) : 1 ≤ Rows.uptoBulk d := by
  cases d with
  | lit l => cases l <;> simp [Rows.uptoBulk]
  | _ => simp [Rows.uptoBulk]
theorem bulk_len {H : Type} : ∀ l : List (DataW H), l.length ≤ Rows.uptoBulkAll l
  | [] => by simp [Rows.uptoBulkAll]
  | x :: r => by have := bulk_pos x; have := bulk_len r; simp only [Rows.uptoBulkAll, List.length_cons]; omega
theorem bulk_part {H : Type} {d : DataW H} : ∀ {l : List (DataW H)}, d ∈ l → Rows.uptoBulk d ≤ Rows.uptoBulkAll l
  | x :: r, h => by
    simp only [Rows.uptoBulkAll]
    rcases List.mem_cons.1 h with e | e
    · subst e; omega
    · have := bulk_part e; omega
theorem long_small {H : Type} {l : List (DataW H)} (hk : Rows.uptoSmall H l = true) {d : DataW H} (hd : d ∈ l) {n : Nat} (h : Long d n) : n ≤ 1048576 := by
  have hb : Rows.uptoBulkAll l ≤ 1048576 := of_decide_eq_true hk
  have hp := bulk_part hd
  rcases h with ⟨_, rfl⟩ | ⟨el, spr, rfl, rfl⟩
  · omega
  · have := bulk_len el
    simp only [Rows.uptoBulk] at hp
    omega
theorem str_small {H : Type} {l : List (DataW H)} (hk : Rows.uptoSmall H l = true) {s : ByteArray} (h : (DataW.lit (.string s.data.toList) : DataW H) ∈ l) : s.size ≤ 1048576 := by
  have hb : Rows.uptoBulkAll l ≤ 1048576 := of_decide_eq_true hk
  have hp := bulk_part h
  have hs : s.data.toList.length = s.size := by simp
  simp only [Rows.uptoBulk] at hp
  omega
end Go.Proofs.YtpifkinlaicliaaDoor
/-
  OPENING ARGUMENTS: a slice of texts; its bulk.
-/






namespace Go.Proofs.YtpifkinlaicliaaDoor
open Go.RowKit Go.ChangeShapes Go.WideShapes
theorem long_bulk {H : Type} {d : DataW H} {n : Nat} (h : Long d n) : n ≤ Rows.uptoBulk d := by
  rcases h with ⟨_, rfl⟩ | ⟨el, spr, rfl, rfl⟩
  · omega
  · have := bulk_len el
    simp only [Rows.uptoBulk]
    omega
theorem bulk_elem {H : Type} {D : Nat → DataW H} {len i : Nat} {spr : List (DataW H)} (hi : i < len) : Rows.uptoBulk (D i) ≤ Rows.uptoBulk (.slice ((List.range len).map D) spr) := by
  have := bulk_part (List.mem_map.2 ⟨i, List.mem_range.2 hi, rfl⟩ : D i ∈ (List.range len).map D)
  simp only [Rows.uptoBulk]
  omega
theorem small_of_bulk {H : Type} {l : List (DataW H)} (hk : Rows.uptoSmall H l = true) {d : DataW H} (hd : d ∈ l) {n : Nat} (h : n ≤ Rows.uptoBulk d) : n ≤ 1048576 := by
  have hb : Rows.uptoBulkAll l ≤ 1048576 := of_decide_eq_true hk
  have hp := bulk_part hd
  omega
section
variable {H : Type} {enc : TypeId × Value → H} {P : Program} {W : World} {base : Nat} {sp : Nat → Bool} {held : Bool}
theorem open_txts {t e : TypeId} {a : Option Addr} {len cap : Nat} {d : DataW H} {ps : List MemPlace} (ht : P.underlying t = some (.slice e)) (he : P.underlying e = some .string) (ce : P.cellsOf e = 1)
    (h : DataW.Trod enc P W base sp held t (.slice a len cap) d ps) :
    ∃ L : List ByteArray, Txts W (.slice a len cap) L ∧ (∀ i, (L.getD i ⟨#[]⟩).size ≤ 9223372036854775807) ∧ Long d L.length ∧ ∀ i, (L.getD i ⟨#[]⟩).size ≤ Rows.uptoBulk d := by
  obtain ⟨fuel, hf⟩ := h
  rcases Deep.open_slice1 ht ce hf with ⟨hcs, hx⟩ | ⟨x, l, c, m, n, V, D, Pl, hcs, _, hl, hm, hmm, hx, hall⟩
  · simp [Value.cells] at hcs
    obtain ⟨rfl, rfl, rfl⟩ := hcs
    simp at hx
    exact ⟨[], ⟨none, 0, 0, 0, rfl, by simp, by simp, by simp, by simp⟩, fun i => by simp [ByteArray.size], .inl ⟨hx.1, rfl⟩, fun i => by simp [ByteArray.size]⟩
  · simp [Value.cells] at hcs
    obtain ⟨rfl, rfl, rfl⟩ := hcs
    have hlm : len ≤ m := by rw [hmm]; split <;> omega
    obtain ⟨rfl, _⟩ := Prod.mk.inj hx
    have each : ∀ i, i < len → ∃ q : ByteArray, V i = .string q ∧ q.size ≤ 9223372036854775807 ∧ q.size ≤ Rows.uptoBulk (D i) := fun i hi => by
      obtain ⟨h1, h2⟩ := hall i (by omega)
      obtain ⟨s, h3, h4, h5⟩ := DataW.trod_string he h2
      have h6 := congrArg Prod.fst h4
      refine ⟨s, by simpa using h3, by simpa [maxLen] using h5, ?_⟩
      rw [show D i = .lit (.string s.data.toList) from h6]
      have hs : s.data.toList.length = s.size := by simp
      simp only [Rows.uptoBulk]
      omega
    let q : Nat → ByteArray := fun i => if hi : i < len then (each i hi).choose else ⟨#[]⟩
    have hq : ∀ i, i < len → V i = .string (q i) ∧ (q i).size ≤ 9223372036854775807 ∧ (q i).size ≤ Rows.uptoBulk (D i) := fun i hi => by
      have := (each i hi).choose_spec
      simp only [q, dif_pos hi]
      exact this
    have hlen : ((List.range len).map q).length = len := by simp
    have hget : ∀ i, i < len → ((List.range len).map q).getD i ⟨#[]⟩ = q i := fun i hi => by simp [List.getD, hi]
    have hget' : ∀ i, ¬ i < len → ((List.range len).map q).getD i ⟨#[]⟩ = ⟨#[]⟩ := fun i hi => by simp only [List.getD]; rw [List.getElem?_eq_none (by rw [hlen]; omega)]; rfl
    refine ⟨(List.range len).map q, ⟨some x, cap, x.block, x.off, by rw [hlen], by omega, by simpa [maxLen] using hm, fun hp => ?_, fun i hi => ?_⟩, fun i => ?_, .inr ⟨_, _, rfl, by simp⟩, fun i => ?_⟩
    · rw [hlen] at hp
      exact congrArg some (addr_of_cell (hall 0 (by omega)).1)
    · rw [hlen] at hi
      have hx' := addr_of_cell (hall 0 (by omega)).1
      have g0 := (hall i (by omega)).1
      rw [hx', Addr.add_lit, (hq i hi).1] at g0
      rw [hget i hi]
      exact later g0
    · by_cases hi : i < len
      · rw [hget i hi]; exact (hq i hi).2.1
      · rw [hget' i hi]; simp [ByteArray.size]
    · by_cases hi : i < len
      · rw [hget i hi]; exact Nat.le_trans (hq i hi).2.2 (bulk_elem hi)
      · rw [hget' i hi]; simp [ByteArray.size]
end
end Go.Proofs.YtpifkinlaicliaaDoor
/-
  THE TWO TABLES OF PACKAGE utf8, AS THIS SEAT's ROWS LIST THEM: what the list gives; a world that holds them.
-/







namespace Go.Proofs.YtpifkinlaicliaaDoor
open Go.Shelf Go.Lib Go.RowKit

theorem first_eq : (Rows.laid_unicode_utf8_first : DataW Unit) = Lib.firstData := by kernel_rfl
theorem accept_eq : (Rows.laid_unicode_utf8_acceptRanges : DataW Unit) = Lib.acceptData := by kernel_rfl
theorem utf8Tabs_old {w W : World} {a b : Nat} (h : Lib.Utf8Tabs a b w) (o : Old w W) : Lib.Utf8Tabs a b W :=
  ⟨fun c hc => o.cell (h.1 c hc), fun i hi => ⟨o.cell (h.2 i hi).1, o.cell (h.2 i hi).2⟩⟩
theorem tabs_of {l : List (String × DataW Unit)} {W : World} (h : laidMet Tryd.prog l W) (h1 : ("unicode/utf8.first", (Rows.laid_unicode_utf8_first : DataW Unit)) ∈ l) (h2 : ("unicode/utf8.acceptRanges", (Rows.laid_unicode_utf8_acceptRanges : DataW Unit)) ∈ l) : Tabs W := by
  have r1 := Lib.laidMet.reads h h1
  have r2 := Lib.laidMet.reads h h2
  rw [first_eq] at r1
  rw [accept_eq] at r2
  have := utf8Tabs_of_readsT (U8Types.of260 Tryd.lays260) ⟨by kernel_rfl, by kernel_rfl, by kernel_rfl, by kernel_rfl, by kernel_rfl, by kernel_rfl, by kernel_rfl⟩ r1 r2
  exact fun V o => utf8Tabs_old this o
noncomputable def laidWorld (os : Os) : World :=
  let w0 := World.holding Tryd.prog os ⟨#[], #[], []⟩
  let put (h : Array Obj) (g : Nat) (cs : Array Value) : Array Obj := h.modify g fun
    | .cells _ t frozen => .cells cs t frozen
    | o => o
  let h1 := put w0.heap 0 (Lib.firstTab.map fun z => Value.int .u8 z).toArray
  let h2 := put h1 1 ((List.range 16).flatMap fun i => [Value.int .u8 (Lib.accLo i), Value.int .u8 (Lib.accHi i)]).toArray
  { w0 with heap := h2 }
theorem laid_met (os : Os) (args : Array Value) : laidMet Tryd.prog [("unicode/utf8.acceptRanges", (Rows.laid_unicode_utf8_acceptRanges : DataW Unit)), ("unicode/utf8.first", Rows.laid_unicode_utf8_first)] ((laidWorld os).forCall (fun _ _ => 0) ⟨#[], args, []⟩).memory := by
  rw [first_eq, accept_eq]
  exact (LaidIn.of_run (l := [("unicode/utf8.acceptRanges", Lib.acceptData), ("unicode/utf8.first", Lib.firstData)]) [1, 0] 8 (by kernel_rfl) (by kernel_rfl) (by kernel_rfl) (by kernel_rfl)).met
end Go.Proofs.YtpifkinlaicliaaDoor
