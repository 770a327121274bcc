/-
  OCTET: fixed numbers, bytes and texts laid; the document's sum and bytes.
-/
import Derived.Test.YtaclkoipobgmkaaDoorOctWalksK
import Derived.Lib.AppendStr
namespace Go.Proofs.YtaclkoipobgmkaaDoor
open Go.RowKit
attribute [local go_sem] Old.refl Old.alloc Old.drew Old.setCell OldW.old

/-- the lowest k bytes of a number -/
def lowL (n : Nat) : Nat → List Int
  | 0 => []
  | k + 1 => ((n % 256 : Nat) : Int) :: lowL (n / 256) k
theorem lowL_len : ∀ (k n : Nat), (lowL n k).length = k
  | 0, _ => rfl
  | k + 1, n => by rw [lowL, List.length_cons, lowL_len k]
theorem lowL_byt : ∀ (k n : Nat), Byt (lowL n k)
  | 0, _ => byt_nil'
  | k + 1, n => by
    intro i hi
    rw [lowL] at hi ⊢
    cases i with
    | zero => simp [ix]; omega
    | succ i =>
      have := lowL_byt k (n / 256) i (by simpa using hi)
      simpa [ix] using this
where byt_nil' : Byt [] := fun i hi => by simp at hi
theorem lowL_snoc : ∀ (k n : Nat), lowL n (k + 1) = lowL n k ++ [((n / 256 ^ k % 256 : Nat) : Int)]
  | 0, n => by simp [lowL]
  | k + 1, n => by
    rw [lowL, lowL_snoc k (n / 256), lowL, List.cons_append, Nat.div_div_eq_div_mul, Nat.pow_succ, Nat.mul_comm 256]
theorem lowL_mod16 (n : Nat) : lowL (n % 65536) 2 = lowL n 2 := by
  simp only [lowL]
  rw [show n % 65536 % 256 = n % 256 by omega, show n % 65536 / 256 % 256 = n / 256 % 256 by omega]
theorem lowL_mod32 (n : Nat) : lowL (n % 4294967296) 4 = lowL n 4 := by
  simp only [lowL, Nat.div_div_eq_div_mul]
  rw [show n % 4294967296 % 256 = n % 256 by omega, show n % 4294967296 / 256 % 256 = n / 256 % 256 by omega, show n % 4294967296 / (256 * 256) % 256 = n / (256 * 256) % 256 by omega,
    show n % 4294967296 / (256 * 256 * 256) % 256 = n / (256 * 256 * 256) % 256 by omega]
/-- a text's bytes -/
def bytesOf (s : ByteArray) : List Int := s.data.toList.map fun b => (b.toNat : Int)
theorem bytesOf_len (s : ByteArray) : (bytesOf s).length = s.size := by simp [bytesOf]
theorem bytesOf_byt (s : ByteArray) : Byt (bytesOf s) := by
  intro i hi
  rw [ix_get hi]
  simp only [bytesOf, List.getElem_map]
  have := (s.data.toList[i]'(by simpa [bytesOf] using hi)).toNat_lt
  omega
theorem strCells_bytes (s : ByteArray) : Lib.strCells s = (bytesOf s).map (Value.int .u8) := by
  simp [Lib.strCells, bytesOf, List.map_map, Function.comp_def]
theorem shr8 (n : Nat) : ((n : Int) / 256) % 256 = ((n / 256 % 256 : Nat) : Int) := by omega
set_option maxRecDepth 100000 in
set_option maxHeartbeats 400000 in
theorem Put16_any (l : List Int) (v : Value) (n : Nat) (w : World) (hT : Nums .u8 w v l) (hz : l.length + 10 ≤ 140737488355328) (hn : n < 65536) :
    Calls Tryd.prog 22 #[v, .int .u16 n] w fun e w' => RetByt w w' (l ++ lowL n 2) e ∧ Old w w' := by
  go_enter Tryd.func22, Tryd.ntmps22
  go_wp2_with (first
    | (go_at_call 43; refine (grown_any l v 2 w hT (by omega)).mono ?_; rintro e w1 ⟨⟨v1, rfl, hv1⟩, ho1⟩)
    | (at_builtin; refine wpList_append_nums (k := .u8) (w0 := w) rfl _ _ 22 rfl 5 Tryd.underlying22 infoByte _ l (lowL n 2) rfl (hv1.alloc _) _ rfl (Nums.built w1 5 (lowL n 2) (by simp [lowL]; omega) (by simp [lowL_len]) (lowL_len 2 n)) (by simp [lowL_len]; omega) (by simp [lowL_len]; omega) (ho1.alloc _) ?_; intro v' w3 hown3 ho3 _))
  go_ret
  exact ⟨⟨_, rfl, hown3⟩, ho3⟩
set_option maxRecDepth 100000 in
set_option maxHeartbeats 400000 in
theorem Put32_any (l : List Int) (v : Value) (n : Nat) (w : World) (hT : Nums .u8 w v l) (hz : l.length + 10 ≤ 140737488355328) (hn : n < 4294967296) :
    Calls Tryd.prog 23 #[v, .int .u32 n] w fun e w' => RetByt w w' (l ++ lowL n 4) e ∧ Old w w' := by
  go_enter Tryd.func23, Tryd.ntmps23
  go_wp2_with (first
    | (go_at_call 43; refine (grown_any l v 4 w hT (by omega)).mono ?_; rintro e w1 ⟨⟨v1, rfl, hv1⟩, ho1⟩)
    | (at_builtin; refine wpList_append_nums (k := .u8) (w0 := w) rfl _ _ 22 rfl 5 Tryd.underlying22 infoByte _ l (lowL n 4) rfl (hv1.alloc _) _ rfl (Nums.built w1 5 (lowL n 4) (by simp [lowL, Nat.div_div_eq_div_mul]; omega) (by simp [lowL_len]) (lowL_len 4 n)) (by simp [lowL_len]; omega) (by simp [lowL_len]; omega) (ho1.alloc _) ?_; intro v' w3 hown3 ho3 _))
  go_ret
  exact ⟨⟨_, rfl, hown3⟩, ho3⟩
set_option maxHeartbeats 400000 in
theorem PutBytes_any (l q : List Int) (v u : Value) (w : World) (hT : Nums .u8 w v l) (hU : Nums .u8 w u q) (hz : l.length + q.length + 20 ≤ 140737488355328) :
    Calls Tryd.prog 24 #[v, u] w fun e w' => RetByt w w' (l ++ (puts q.length ++ q)) e ∧ Old w w' := by
  have HU := Lib.hid hU
  obtain ⟨au, cu, rfl, _, _⟩ := hU.form
  have hp10 := puts_len10 (n := q.length) (by omega)
  clear hU
  go_enter Tryd.func24, Tryd.ntmps24
  go_wp2_with (first
    | (go_at_call 15; refine (PutUint_any l v q.length w hT (by omega) (by omega)).mono ?_; rintro e w1 ⟨⟨v1, rfl, hv1⟩, ho1⟩)
    | (at_builtin; refine wpList_append_nums (k := .u8) (w0 := w) rfl _ _ 22 rfl 5 Tryd.underlying22 infoByte _ (l ++ puts q.length) q rfl hv1 _ rfl (HU.out.old ho1) (by simp; omega) (by simp; omega) ho1 ?_; intro v' w3 hown3 ho3 _))
  go_ret
  exact ⟨⟨_, rfl, by rw [← List.append_assoc]; exact hown3⟩, ho3⟩
set_option maxHeartbeats 400000 in
theorem PutText_any (l : List Int) (s : ByteArray) (v : Value) (w : World) (hT : Nums .u8 w v l) (hz : l.length + s.size + 20 ≤ 140737488355328) :
    Calls Tryd.prog 25 #[v, .string s] w fun e w' => RetByt w w' (l ++ (puts s.size ++ bytesOf s)) e ∧ Old w w' := by
  obtain ⟨i0, hi0, hz0, hz1, hz2⟩ := info_parts infoByte
  have hp10 := puts_len10 (n := s.size) (by omega)
  go_enter Tryd.func25, Tryd.ntmps25
  go_wp2_with (first
    | (go_at_call 15; refine (PutUint_any l v s.size w hT (by omega) (by omega)).mono ?_; rintro e w1 ⟨⟨v1, rfl, hv1⟩, ho1⟩)
    | (at_builtin; refine Lib.wpList_append_own_string _ rfl _ _ 22 9 rfl w.heap.size 5 i0 Tryd.underlying22 Tryd.underlying9 hi0 hz0 hz1 hz2 v1 (l ++ puts s.size).length ((l ++ puts s.size).map (.int .u8)) rfl hv1 s rfl (by simp [maxLen]; omega) (by simp; omega) ho1.size ?_; intro v' w3 hown3 hg3 _; have ho3 := ho1.grown hg3 (fun q hq => (World.ownsRow.lt hv1 q hq).1)))
  go_ret
  refine ⟨⟨_, rfl, ?_⟩, ho3⟩
  rw [← List.append_assoc]
  unfold OwnN
  rw [List.length_append, bytesOf_len, List.map_append, ← strCells_bytes]
  exact hown3
set_option maxHeartbeats 1600000 in
theorem RSum_any (l : List Int) (v : Value) (w : World) (hT : Nums .u8 w v l) (hb : Byt l) :
    Calls Tryd.prog 18 #[v] w fun e w' => e = .returned (.int .u32 (crcN (nats l) : Nat)) ∧ w = w' := by
  obtain ⟨a, cap, b, off, rfl, hn1, hn2, ha, ht0⟩ := hT
  go_enter Tryd.func18, Tryd.ntmps18
  go_wp2_with fail
  go_loopw [3, 9] (fun r j wr => ∃ (k : Nat), k ≤ l.length ∧ j = .int .i64 k ∧ r = .int .u32 (st l k) ∧ w = wr) (fun _ j _ => l.length - (intOf j).toNat)
  case atStart => exact ⟨0, by omega, rfl, by rw [st_zero]; rfl, rfl⟩
  case round =>
    obtain ⟨k, hk, rfl, rfl, rfl⟩ := hrel
    have hs := st_lt hb k hk
    by_cases hlt : k < l.length
    · obtain rfl := ha (by omega)
      have hbk := hb k hlt
      have htk := ht0 k hlt w (Old.refl w)
      have Hx := Lib.hid (show bits .xor .u32 (st l k : Nat) (ix l k) = ((st l k ^^^ (ix l k).toNat : Nat) : Int) from by
        have := xor_u32 (st l k) (ix l k).toNat hs (by omega)
        rwa [Int.toNat_of_nonneg hbk.1] at this)
      have Hsucc := Lib.hid (st_succ hlt)
      have h0 : st l k ^^^ (ix l k).toNat < 4294967296 := Nat.xor_lt_two_pow (n := 32) hs (by omega)
      clear ht0
      go_wp2_with fail
      go_loopw [3, 6] (fun r j wr => ∃ (m : Nat), m ≤ 8 ∧ j = .int .i64 m ∧ r = .int .u32 (cbs m (st l k ^^^ (ix l k).toNat) : Nat) ∧ w = wr) (fun _ j _ => 8 - (intOf j).toNat)
      case atStart => exact ⟨0, by omega, rfl, by rw [Hx.out]; rfl, by trivial⟩
      case round =>
        obtain ⟨m, hm, rfl, rfl, rfl⟩ := hrel
        have hy := cbs_lt m h0
        have Hsn := Lib.hid (cbs_snoc m (st l k ^^^ (ix l k).toNat))
        have Hcby := Lib.hid (show cby (st l k) (ix l k).toNat = cbs 8 (st l k ^^^ (ix l k).toNat) from rfl)
        generalize st l k ^^^ (ix l k).toNat = z at *
        generalize hyz : cbs m z = y at *
        by_cases hm8 : m < 8
        · by_cases hp : y % 2 = 1
          · have Hc := Lib.hid (cb_odd hp hy)
            have hp' : ((y : Int) % 2 == 1) = true := by rw [beq_iff_eq]; omega
            go_wp2_with fail
            go_roundw
            case rel => exact ⟨m + 1, by omega, by go_num, by rw [Hc.out, Hsn.out], by trivial⟩
            case measure => simp [intOf]; omega
          · have Hc := Lib.hid (cb_even hp)
            have hp' : ((y : Int) % 2 == 1) = false := by rw [beq_eq_false_iff_ne]; omega
            go_wp2_with fail
            go_roundw
            case rel => exact ⟨m + 1, by omega, by go_num, by rw [Hc.out, Hsn.out], by trivial⟩
            case measure => simp [intOf]; omega
        · have hm9 : m = 8 := by omega
          have Hy := Lib.hid (show y = st l (k + 1) from by rw [Hsucc.out, Hcby.out, ← hm9, hyz])
          clear hm9 hyz
          go_wp2_with fail
          go_roundw
          case rel => exact ⟨k + 1, by omega, by go_num, by rw [Hy.out], by trivial⟩
          case measure => simp [intOf]; omega
    · obtain rfl : k = l.length := by omega
      have Hx := Lib.hid (show bits .xor .u32 IntKind.u32.max (st l l.length : Nat) = ((crcN (nats l) : Nat) : Int) from by
        have := xor_u32 4294967295 (st l l.length) (by omega) hs
        rw [show ((4294967295 : Nat) : Int) = IntKind.u32.max from rfl] at this
        rw [this, st_all]; rfl)
      go_wp2_with fail
      go_ret
      exact ⟨ret_u32 Hx.out, rfl⟩
set_option maxHeartbeats 800000 in
theorem RUintB_any (n : Nat) (w : World) (hn : n < 18446744073709551616) :
    Calls Tryd.prog 26 #[.int .u64 n] w fun e w' => RetByt w w' (puts n) e ∧ Old w w' := by
  have hp10 := puts_len10 hn
  go_enter Tryd.func26, Tryd.ntmps26
  go_wp2_with fail
  go_loopw [0, 3] (fun x u wr => ∃ (m : Nat) (D : List Int), m ≤ n ∧ x = .int .u64 m ∧ D ++ puts m = puts n ∧ OwnN .u8 5 w wr u D ∧ Old w wr) (fun x _ _ => (intOf x).toNat)
  case atStart => exact ⟨n, [], Nat.le_refl _, rfl, rfl, OwnN.nil _ _ _, Old.refl _⟩
  case round =>
    obtain ⟨m, D, hm, rfl, hD, hown, hold⟩ := hrel
    have hDl : D.length + (puts m).length = (puts n).length := by rw [← hD, List.length_append]
    have HD := Lib.hid hD
    clear hD
    obtain ⟨au, cu, rfl, _, _⟩ := ownsRow_form hown
    by_cases hmore : 127 < m
    · have Hp := Lib.hid (puts_more hmore)
      have hpl : 1 ≤ (puts m).length := by rw [Hp.out]; simp
      have hge : (128 : Int) ≤ m := by omega
      go_wp2_with (at_builtin; refine wpList_append_nums (k := .u8) (w0 := w) rfl _ _ 22 rfl 5 Tryd.underlying22 infoByte _ D [((m % 128 : Nat) : Int) + 128] rfl (hown.alloc _) _ rfl (Nums.one _ _ _) (by simp; omega) (by simp; omega) (hold.alloc _) ?_; intro v' w3 hown3 ho3 _)
      go_roundw
      case rel => exact ⟨m / 128, D ++ [((m % 128 : Nat) : Int) + 128], by omega, by go_num, by rw [← HD.out, Hp.out, List.append_assoc]; rfl, hown3, ho3⟩
      case measure => simp [intOf]; omega
    · have Hp := Lib.hid (puts_last hmore)
      have hpl : 1 ≤ (puts m).length := by rw [Hp.out]; simp
      have hge : ¬ (128 : Int) ≤ m := by omega
      go_wp2_with (at_builtin; refine wpList_append_nums (k := .u8) (w0 := w) rfl _ _ 22 rfl 5 Tryd.underlying22 infoByte _ D [(m : Int)] rfl (hown.alloc _) _ rfl (Nums.one _ _ _) (by simp; omega) (by simp; omega) (hold.alloc _) ?_; intro v' w3 hown3 ho3 _)
      go_ret
      exact ⟨⟨_, rfl, by rw [← HD.out, Hp.out]; exact hown3⟩, ho3⟩
end Go.Proofs.YtaclkoipobgmkaaDoor
