/-
  OCTET, WALKS B: lists in new memory, alike or not; numbers laid.
-/
import Derived.Test.YtaclkoipobgmkaaDoorOctWalksA
import Derived.Laws.BytesArg
namespace Go.Proofs.YtaclkoipobgmkaaDoor
open Go.RowKit
attribute [local go_sem] Old.refl Old.alloc Old.drew Old.setCell OldW.old

theorem infoByte : (Tryd.prog.info? 5).map (fun i => (i.zero, i.size, i.bytes)) = some (some (.int .u8 0), 1, 1) := by kernel_rfl
/-- a returned list of bytes in new memory -/
def RetByt (w w' : World) (l : List Int) (e : Ending) : Prop := ∃ v, e = .returned v ∧ OwnN .u8 5 w w' v l

theorem twin_any (l : List Int) (v : Value) (w : World) (hT : Nums .u8 w v l) (hz : l.length ≤ 140737488355328) :
    Calls Tryd.prog 11 #[v] w fun e w' => RetByt w w' l e ∧ Old w w' := by
  have hT' := Lib.hid hT
  clear hT
  go_enter Tryd.func11, Tryd.ntmps11
  go_wp2_with (at_builtin; refine wpList_append_nums (k := .u8) (w0 := w) rfl _ _ 22 rfl 5 Tryd.underlying22 infoByte _ [] l rfl (OwnN.nil _ _ _) v rfl hT'.out (by simp; omega) (by simp; omega) (Old.refl w) ?_; intro v' w' h1 h2 _)
  go_ret
  exact ⟨⟨_, rfl, h1⟩, h2⟩

/-! ### a list as a text -/
theorem strOfNums_inj {a b : List Int} (ha : Byt a) (hb : Byt b) : strOfNums a = strOfNums b ↔ a = b := by
  constructor
  · intro h
    have h1 : a.map (fun n => UInt8.ofNat n.toNat) = b.map (fun n => UInt8.ofNat n.toNat) := by
      rw [← strOfNums_data, ← strOfNums_data, h]
    have hl : a.length = b.length := by simpa using congrArg List.length h1
    refine List.ext_getElem hl fun i h2 h3 => ?_
    have h4 : UInt8.ofNat (a[i]).toNat = UInt8.ofNat (b[i]).toNat := by
      have := congrArg (·[i]?) h1
      simpa [h2, h3] using this
    have a1 := ha i h2
    have b1 := hb i h3
    rw [ix_get h2] at a1
    rw [ix_get h3] at b1
    have h5 := congrArg UInt8.toNat h4
    simp only [UInt8.toNat_ofNat'] at h5
    omega
  · rintro rfl; rfl
theorem convert_bytes {P : Program} {w W : World} {v : Value} {l : List Int} (h : Nums .u8 w v l) (src e : TypeId) (hs : P.underlying src = some (.slice e)) (he : P.underlying e = some (.int .u8)) (dst : TypeId) (hd : P.underlying dst = some .string) (hW : Old w W) :
    (convert src dst v).run P W = .ok (.string (strOfNums l)) W := by
  obtain ⟨a, cap, b, off, rfl, hn1, hn2, ha, ht0⟩ := h
  by_cases hl : 0 < l.length
  · obtain rfl := ha hl
    exact run_convert_bytes_arg W src e hs he b off l.length cap l rfl (fun i hi => ht0 i hi W hW) dst hd
  · obtain rfl : l = [] := List.eq_nil_of_length_eq_zero (by omega)
    cases a with
    | none => exact run_convert_bytes_nil W src e hs he 0 cap dst hd
    | some x =>
      rw [run_convert_bytes_string W src dst e _ _ cap hs he hd, run_bytesToString W x _ cap [] (by rfl)]
      rfl
def eqL (a b : List Int) : Bool := a == b
theorem eqL_self (a : List Int) : eqL a a = true := by simp [eqL]
theorem eqL_ne {a b : List Int} (h : a ≠ b) : eqL a b = false := by unfold eqL; rw [beq_eq_false_iff_ne]; exact h
theorem str_toList (l : List Int) : (strOfNums l).toList = l.map fun n => UInt8.ofNat n.toNat := by
  rw [ByteArray.toList_eq]; rfl
theorem eqL_str {a b : List Int} (ha : Byt a) (hb : Byt b) : ((strOfNums a).toList == (strOfNums b).toList) = eqL a b := by
  unfold eqL
  rw [Bool.eq_iff_iff, beq_iff_eq, beq_iff_eq, ← strOfNums_inj ha hb]
  constructor
  · intro h
    rw [str_toList, str_toList, ← strOfNums_data, ← strOfNums_data] at h
    exact ByteArray.ext (Array.toList_inj.1 h)
  · intro h; rw [h]
theorem same_any (l m : List Int) (v u : Value) (w : World) (hT : Nums .u8 w v l) (hU : Nums .u8 w u m) (hl : Byt l) (hm : Byt m) :
    Calls Tryd.prog 14 #[v, u] w fun e w' => e = .returned (.bool (eqL l m)) ∧ w = w' := by
  have hc1 := fun W h => convert_bytes (W := W) hT 22 5 Tryd.underlying22 Tryd.underlying5 9 Tryd.underlying9 h
  have hc2 := fun W h => convert_bytes (W := W) hU 22 5 Tryd.underlying22 Tryd.underlying5 9 Tryd.underlying9 h
  have c1 := hc1 w (Old.refl w)
  have c2 := hc2 w (Old.refl w)
  have He := Lib.hid (eqL_str hl hm)
  clear hc1 hc2 hT hU
  go_enter Tryd.func14, Tryd.ntmps14
  go_wp2_with fail
  go_ret
  exact ⟨ret_bool He.out, rfl⟩

/-! ### numbers laid -/
def puts (n : Nat) : List Int := if 127 < n then (((n % 128 : Nat) : Int) + 128) :: puts (n / 128) else [(n : Int)]
termination_by n
decreasing_by omega
theorem puts_more {n : Nat} (h : 127 < n) : puts n = (((n % 128 : Nat) : Int) + 128) :: puts (n / 128) := by rw [puts, if_pos h]
theorem puts_last {n : Nat} (h : ¬ 127 < n) : puts n = [(n : Int)] := by rw [puts, if_neg h]
theorem puts_len : ∀ (k n : Nat), n < 128 ^ (k + 1) → (puts n).length ≤ k + 1
  | 0, n, h => by rw [puts_last (by omega)]; simp
  | k + 1, n, h => by
    by_cases h' : 127 < n
    · rw [puts_more h']
      have := puts_len k (n / 128) (by rw [Nat.pow_succ] at h; omega)
      simp only [List.length_cons]; omega
    · rw [puts_last h']; simp
theorem puts_len10 {n : Nat} (h : n < 18446744073709551616) : (puts n).length ≤ 10 := puts_len 9 n (by omega)
theorem puts_byt (n : Nat) : Byt (puts n) := by
  intro i hi
  by_cases h' : 127 < n
  · rw [puts_more h'] at hi ⊢
    cases i with
    | zero => simp only [ix, List.getD_cons_zero]; omega
    | succ i =>
      have := puts_byt (n / 128) i (by simpa using hi)
      simpa [ix] using this
  · rw [puts_last h'] at hi ⊢
    obtain rfl : i = 0 := by simpa using hi
    simp only [ix, List.getD_cons_zero]; omega
termination_by n
decreasing_by omega
theorem or_high8 : ∀ x : Fin 256, bits .or .u8 (x.val : Int) 128 = (x.val : Int) % 128 + 128 := by decide +kernel
theorem or_high (x : Int) (h0 : 0 ≤ x) (h1 : x < 256) : bits .or .u8 x 128 = x % 128 + 128 := by
  have := or_high8 ⟨x.toNat, by omega⟩
  simpa [Int.toNat_of_nonneg h0] using this
theorem grown_any (l : List Int) (v : Value) (m : Nat) (w : World) (hT : Nums .u8 w v l) (hz : l.length + m ≤ 140737488355328) :
    Calls Tryd.prog 43 #[v, .int .i64 m] w fun e w' => RetByt w w' l e ∧ Old w w' := by
  obtain ⟨a, cap, rfl, hn1, hn2⟩ := hT.form
  have hT' := Lib.hid hT
  obtain ⟨i, hi, hz0, hz1, hz2⟩ := info_parts infoByte
  clear hT
  go_enter Tryd.func43, Tryd.ntmps43
  go_wp2_with (first
    | (at_make; refine wpList_make_own w rfl _ _ 22 rfl w.heap.size 5 i (.int .u8 0) 1 Tryd.underlying22 hi hz0 hz1 .i64 .i64 _ (l.length + m) rfl rfl (by omega) (by rw [hz2]; omega) (by simp only [maxLen]; omega) (Nat.le_refl _) ?_; intro w1 hr1 hg1; have ho1 : Old w w1 := (Old.refl w).grown hg1 (fun k e => by cases e))
    | (at_builtin; refine wpList_append_nums (k := .u8) (w0 := w) rfl _ _ 22 rfl 5 Tryd.underlying22 infoByte _ [] l rfl hr1 _ rfl (hT'.out.old ho1) (by simp; omega) (by simp; omega) ho1 ?_; intro v' w' h1 h2 _))
  go_ret
  exact ⟨⟨_, rfl, h1⟩, h2⟩
end Go.Proofs.YtaclkoipobgmkaaDoor
