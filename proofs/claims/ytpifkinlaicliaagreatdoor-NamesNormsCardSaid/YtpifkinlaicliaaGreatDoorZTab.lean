/-
  A TABLE OF NAMES, AS IT LIES: slices of texts, the table's three cells; a handle that may be nil.
-/
import Derived.Test.YtpifkinlaicliaaGreatDoorZNamesP
import Derived.Test.YtpifkinlaicliaaGreatDoorZRecs
import Derived.Test.YtpifkinlaicliaaGreatDoorZMapsT
import Derived.Test.YtpifkinlaicliaaGreatDoorProg
namespace Go.Proofs.YtpifkinlaicliaaGreatDoor
open Go.RowKit Go.Maps
attribute [local go_sem] Old.refl Old.alloc Old.drew Old.setCell OldW.old

def txE : Enc ByteArray := ⟨1, fun x => [.string x], fun _ => rfl, fun x u hu => by
  simp only [List.mem_cons, List.not_mem_nil, or_false] at hu
  subst hu; rfl⟩
theorem txE_all (l : List ByteArray) : txE.all l = l.map Value.string := by
  induction l with
  | nil => rfl
  | cons x t ih => rw [Enc.all_cons, ih]; rfl
/-- v: a slice of the texts L, in w and later -/
def Txts (w : World) (v : Value) (L : List ByteArray) : Prop :=
  ∃ a cap b off, v = .slice a L.length cap ∧ L.length ≤ cap ∧ cap ≤ 9223372036854775807 ∧ (0 < L.length → a = some ⟨b, off, none⟩) ∧
    ∀ i, i < L.length → ∀ W, Old w W → W.cell? ⟨b, off + i, none⟩ = some (.string (L.getD i ⟨#[]⟩))
theorem Txts.old {w w' : World} {v : Value} {l : List ByteArray} (h : Txts w v l) (o : Old w w') : Txts w' v l := by
  obtain ⟨a, cap, b, off, e, h1, h2, h3, h4⟩ := h
  exact ⟨a, cap, b, off, e, h1, h2, h3, fun i hi W hW => h4 i hi W (o.trans hW)⟩
theorem Txts.nil (w : World) : Txts w (.slice none 0 0) [] := ⟨none, 0, 0, 0, rfl, by simp, by simp, by simp, by simp⟩
theorem Txts.form {w : World} {v : Value} {l : List ByteArray} (h : Txts w v l) : ∃ a cap, v = .slice a l.length cap ∧ l.length ≤ cap ∧ cap ≤ 9223372036854775807 := by
  obtain ⟨a, cap, b, off, e, h1, h2, _⟩ := h; exact ⟨a, cap, e, h1, h2⟩
theorem Txts.of_recs {w : World} {v : Value} {l : List ByteArray} (h : Recs txE w v l) : Txts w v l := by
  obtain ⟨a, cap, b, off, e, h1, h2, h3, h4⟩ := h
  refine ⟨a, cap, b, off, e, h1, h2, h3, fun i hi W hW => ?_⟩
  refine h4 i _ ?_ W hW
  rw [txE_all, List.getElem?_map]
  simp [List.getD, hi]
theorem Txts.recs {w : World} {v : Value} {l : List ByteArray} (h : Txts w v l) : Recs txE w v l := by
  obtain ⟨a, cap, b, off, e, h1, h2, h3, h4⟩ := h
  refine ⟨a, cap, b, off, e, h1, h2, h3, fun j u hu W hW => ?_⟩
  rw [txE_all, List.getElem?_map] at hu
  have hj : j < l.length := by
    rcases Nat.lt_or_ge j l.length with c | c
    · exact c
    · rw [List.getElem?_eq_none c] at hu; simp at hu
  rw [h4 j hj W hW, ← hu]
  simp [List.getD, hj]
/-- the slice's cells, from a world on -/
theorem Txts.at' {w : World} {v : Value} {l : List ByteArray} (h : Txts w v l) {i : Nat} (hi : i < l.length) : ∃ b off cap, v = .slice (some ⟨b, off, none⟩) l.length cap ∧ l.length ≤ cap ∧ cap ≤ 9223372036854775807 ∧ ∀ W, Old w W → W.cell? ⟨b, off + i, none⟩ = some (.string (nmAt l i)) := by
  obtain ⟨a, cap, b, off, rfl, h1, h2, h3, h4⟩ := h
  obtain rfl := h3 (by omega)
  exact ⟨b, off, cap, rfl, h1, h2, h4 i hi⟩

/-- block c: a table of the names l -/
structure Tab (w : World) (c : Nat) (l : List ByteArray) : Prop where
  names : ∃ v, (∀ W, Old w W → W.cell? ⟨c, 0, none⟩ = some v) ∧ Txts w v l
  norms : ∃ v, (∀ W, Old w W → W.cell? ⟨c, 1, none⟩ = some v) ∧ Txts w v (l.map nrm)
  found : (l = [] ∧ ∀ W, Old w W → W.cell? ⟨c, 2, none⟩ = some (.map none)) ∨
    ∃ b n, (∀ W, Old w W → W.cell? ⟨c, 2, none⟩ = some (.map (some b))) ∧ MapTO Tryz.prog 9 3 w b n (findN (l.map nrm))
theorem Tab.old {w W : World} {c : Nat} {l : List ByteArray} (h : Tab w c l) (o : Old w W) : Tab W c l := by
  obtain ⟨⟨v, h1, h2⟩, ⟨u, k1, k2⟩, h3⟩ := h
  refine ⟨⟨v, fun V oV => h1 V (o.trans oV), h2.old o⟩, ⟨u, fun V oV => k1 V (o.trans oV), k2.old o⟩, ?_⟩
  rcases h3 with ⟨e, h⟩ | ⟨b, n, h, m⟩
  · exact .inl ⟨e, fun V oV => h V (o.trans oV)⟩
  · exact .inr ⟨b, n, fun V oV => h V (o.trans oV), m.old o⟩
/-- a handle: nil, or a table -/
def Hdl (w : World) (p : Option Addr) (l : List ByteArray) : Prop := (p = none ∧ l = []) ∨ ∃ c, p = some ⟨c, 0, none⟩ ∧ Tab w c l
theorem Hdl.old {w W : World} {p : Option Addr} {l : List ByteArray} (h : Hdl w p l) (o : Old w W) : Hdl W p l := by
  rcases h with h | ⟨c, e, h⟩
  · exact .inl h
  · exact .inr ⟨c, e, h.old o⟩

/-! ### Len, Name -/
theorem Len_any (p : Option Addr) (l : List ByteArray) (w : World) (h : Hdl w p l) :
    Calls Tryz.prog 9 #[.pointer p] w fun e w' => e = .returned (.int .i64 l.length) ∧ Old w w' := by
  rcases h with ⟨rfl, rfl⟩ | ⟨c, rfl, ⟨v, h1, h2⟩, _, _⟩
  · go_enter Tryz.func9, Tryz.ntmps9
    go_wp2_with fail
    go_ret
    exact ⟨rfl, Old.refl _⟩
  · obtain ⟨a, cap, rfl, hc1, hc2⟩ := h2.form
    clear h2
    go_enter Tryz.func9, Tryz.ntmps9
    go_wp2_with fail
    go_ret
    exact ⟨rfl, Old.refl _⟩
def nameR (l : List ByteArray) (i : Int) : ByteArray × Int := if 0 ≤ i ∧ i < l.length then (nmAt l i.toNat, 0) else (noS, 1)
theorem Name_any (p : Option Addr) (l : List ByteArray) (i : Int) (w : World) (h : Hdl w p l) (hi0 : -9223372036854775808 ≤ i) (hi1 : i ≤ 9223372036854775807) :
    Calls Tryz.prog 8 #[.pointer p, .int .i64 i] w fun e w' => e = .returned (.tuple #[.string (nameR l i).1, .int .i64 (nameR l i).2]) ∧ Old w w' := by
  have HL := Lib.hid (fun V (o : Old w V) => Len_any p l V (h.old o))
  by_cases h0 : i < 0
  · have Hr : Hid (nameR l i = (noS, 1)) := Lib.hid (if_neg (by omega))
    go_enter Tryz.func8, Tryz.ntmps8
    go_wp2_with fail
    go_ret2
    exact ⟨ret_two (by rw [Hr.out]; rfl) (by rw [Hr.out]; rfl), Old.refl _⟩
  · by_cases h1 : i < l.length
    · have Hr : Hid (nameR l i = (nmAt l i.toNat, 0)) := Lib.hid (if_pos (by omega))
      obtain ⟨k, rfl⟩ : ∃ k : Nat, i = k := ⟨i.toNat, by omega⟩
      have hk : k < l.length := by omega
      have hg : ¬ (l.length : Int) ≤ k := by omega
      rcases h with ⟨rfl, rfl⟩ | ⟨c, rfl, ⟨v, c0, h2⟩, _, _⟩
      · simp at hk
      · obtain ⟨b, off, cap, rfl, hc1, hc2, cN⟩ := h2.at' hk
        have e : Int.toNat (k : Int) = k := Int.toNat_natCast k
        rw [e] at Hr
        clear h2
        generalize nmAt l k = s at *
        go_enter Tryz.func8, Tryz.ntmps8
        go_wp2_with (go_at_call 9; refine (HL.out _ (Old.refl _)).mono ?_; rintro e w1 ⟨rfl, o1⟩)
        have c0' := c0 w1 o1
        have cN' := cN w1 o1
        go_wp2_with fail
        go_ret2
        exact ⟨ret_two (by rw [Hr.out]; rfl) (by rw [Hr.out]; rfl), o1⟩
    · have Hr : Hid (nameR l i = (noS, 1)) := Lib.hid (if_neg (by omega))
      have hg : (l.length : Int) ≤ i := by omega
      clear h
      go_enter Tryz.func8, Tryz.ntmps8
      go_wp2_with (go_at_call 9; refine (HL.out _ (Old.refl _)).mono ?_; rintro e w1 ⟨rfl, o1⟩)
      go_wp2_with fail
      go_ret2
      exact ⟨ret_two (by rw [Hr.out]; rfl) (by rw [Hr.out]; rfl), o1⟩

/-! ### Find -/
theorem optN_none : optN none = 0 := rfl
theorem findR_nil (s : ByteArray) : findR [] s = none := by
  unfold findR
  split <;> rfl
theorem zeroInt : ∀ w, (zeroValue 3).run Tryz.prog w = .ok (.int .i64 0) w := fun w => by kernel_rfl
theorem run_check_str (n : Nat) (em : Bool) (s : ByteArray) (w : World) : (Instr.checkKey em (n + 1) 9 (.string s)).run Tryz.prog w = .ok () w := by
  rw [Instr.checkKey]
  simp [run_underlying Tryz.underlying9]
theorem run_lookup_nil (s : ByteArray) (w : World) : (Instr.lookup 62 (.map none) (.string s) true).run Tryz.prog w = .ok (.tuple #[.int .i64 0, .bool false]) w := by
  have hc := fun em => run_check_str 9999 em s w
  simp only [Nat.reduceAdd] at hc
  unfold Instr.lookup
  simp [run_underlying Tryz.underlying62, run_underlying Tryz.underlying9, Instr.findKey, Instr.findNow, hc]
set_option maxRecDepth 100000 in
set_option maxHeartbeats 800000 in
theorem Find_any (p : Option Addr) (l : List ByteArray) (s : ByteArray) (w : World) (hT : Tabs w) (h : Hdl w p l) :
    Calls Tryz.prog 13 #[.pointer p, .string s] w fun e w' => e = .returned (.tuple #[.int .i64 (optN (findR l s)), .bool (findR l s).isSome]) ∧ Old w w' := by
  have HN := Lib.hid (Norm_any s w hT)
  have hs := normR_size s
  by_cases h0 : (normR s).2 = 0
  · have hr : findR l s = findN (l.map nrm) (nrm s) := if_pos h0
    rw [h0] at HN
    have hs' : (nrm s).size ≤ 9223372036854775807 := by unfold nrm; omega
    rw [show (normR s).1 = nrm s from rfl] at HN
    clear hs h0
    rcases h with ⟨rfl, rfl⟩ | ⟨c, rfl, h⟩
    · have Hr : Hid (findR [] s = none) := Lib.hid (findR_nil s)
      clear hr
      generalize nrm s = n at *
      go_enter Tryz.func13, Tryz.ntmps13
      go_wp2_with (go_at_call 20; refine HN.out.mono ?_; rintro e w1 ⟨rfl, o1⟩)
      go_wp2_with fail
      go_ret2
      exact ⟨ret_two (by rw [Hr.out]; rfl) (by rw [Hr.out]; rfl), o1⟩
    · rcases h.found with ⟨rfl, c2⟩ | ⟨b, n, c2, hm⟩
      · have Hr : Hid (findR [] s = none) := Lib.hid (findR_nil s)
        have hnil := run_lookup_nil
        clear hr h
        generalize nrm s = n at *
        go_enter Tryz.func13, Tryz.ntmps13
        go_wp2_with (go_at_call 20; refine HN.out.mono ?_; rintro e w1 ⟨rfl, o1⟩)
        go_ret2
        exact ⟨ret_two (by rw [Hr.out]; rfl) (by rw [Hr.out]; rfl), o1⟩
      · have Hr := Lib.hid hr
        have Hm := Lib.hid hm
        clear hr h hm
        generalize hz : findN (l.map nrm) (nrm s) = z at *
        have Hz := Lib.hid hz
        clear hz
        generalize nrm s = q at *
        go_enter Tryz.func13, Tryz.ntmps13
        go_wp2_with (first
          | (go_at_call 20; refine HN.out.mono ?_; rintro e w1 ⟨rfl, o1⟩)
          | (refine wpList_lookup_mto_ok rfl _ _ _ rfl _ _ Tryz.underlying9 Tryz.underlying62 Tryz.underlying3 zeroInt b n _ rfl (Hm.out.old o1) q rfl hs' z Hz.out ?_))
        go_ret2
        exact ⟨ret_two (by rw [Hr.out]; rfl) (by rw [Hr.out]; rfl), o1⟩
  · have Hr : Hid (findR l s = none) := Lib.hid (if_neg h0)
    have hne : ((normR s).2 != 0) = true := by simpa using h0
    clear hs h0 h
    generalize (normR s).1 = n at *
    generalize (normR s).2 = e0 at *
    go_enter Tryz.func13, Tryz.ntmps13
    go_wp2_with (go_at_call 20; refine HN.out.mono ?_; rintro e w1 ⟨rfl, o1⟩)
    go_wp2_with fail
    go_ret2
    exact ⟨ret_two (by rw [Hr.out]; rfl) (by rw [Hr.out]; rfl), o1⟩
end Go.Proofs.YtpifkinlaicliaaGreatDoor
