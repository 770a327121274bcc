/-
  OCTET BACK: the walk.
-/
import Derived.Test.YtaclkoipobgmkaaDoorOctBackPlain
import Derived.Test.YtaclkoipobgmkaaDoorOpenL
namespace Go.Proofs.YtaclkoipobgmkaaDoor
open Go.RowKit
attribute [local go_sem] Old.refl Old.alloc Old.drew Old.setCell OldW.old

def f0 (l : List Int) (k : Nat) : List Int := pieceN (ix l k).toNat
def f1 (l : List Int) (k : Nat) : List Int := puts (zig (ix l k))
def f2 (L : List (List Int)) (k : Nat) : List Int := puts (L.getD k []).length ++ L.getD k []
def f3 (L : List ByteArray) (k : Nat) : List Int := puts (L.getD k ⟨#[]⟩).size ++ bytesOf (L.getD k ⟨#[]⟩)
theorem f0_byt (l : List Int) (k : Nat) : Byt (f0 l k) := pieceN_byt _
theorem f1_byt (l : List Int) (k : Nat) : Byt (f1 l k) := puts_byt _
theorem f2_byt {L : List (List Int)} (h : ∀ i, Byt (L.getD i [])) (k : Nat) : Byt (f2 L k) := byt_append (puts_byt _) (h k)
theorem f3_byt (L : List ByteArray) (k : Nat) : Byt (f3 L k) := byt_append (puts_byt _) (bytesOf_byt _)
theorem f0_len {l : List Int} (h : ∀ i, i < l.length → 0 ≤ ix l i ∧ ix l i ≤ 18446744073709551615) (k : Nat) : (f0 l k).length ≤ 16 := by
  unfold f0
  rw [pieceN_len]
  have : (ix l k).toNat < 18446744073709551616 := by
    by_cases hk : k < l.length
    · have := h k hk; omega
    · rw [show ix l k = 0 from by simp [ix, List.getD, List.getElem?_eq_none (show l.length ≤ k by omega)]]; decide
  have := puts_len10 this
  omega
theorem f1_len {l : List Int} (h : ∀ i, i < l.length → -9223372036854775808 ≤ ix l i ∧ ix l i ≤ 9223372036854775807) (k : Nat) : (f1 l k).length ≤ 10 := by
  unfold f1
  by_cases hk : k < l.length
  · exact puts_len10 (zig_lt (h k hk).1 (h k hk).2)
  · rw [show ix l k = 0 from by simp [ix, List.getD, List.getElem?_eq_none (show l.length ≤ k by omega)]]; exact puts_len10 (by decide)
theorem f2_len {L : List (List Int)} (h : ∀ i, (L.getD i []).length ≤ 1048576) (k : Nat) : (f2 L k).length ≤ 1048586 := by
  have := h k
  have := puts_len10 (n := (L.getD k []).length) (by omega)
  unfold f2
  rw [List.length_append]
  omega
theorem f3_len {L : List ByteArray} (h : ∀ i, (L.getD i ⟨#[]⟩).size ≤ 1048576) (k : Nat) : (f3 L k).length ≤ 1048586 := by
  have := h k
  have := puts_len10 (n := (L.getD k ⟨#[]⟩).size) (by omega)
  unfold f3
  rw [List.length_append, bytesOf_len]
  omega
set_option maxRecDepth 100000 in
set_option maxHeartbeats 3200000 in
theorem octetBack_row_walk (W : World) (hT : Tabs W) (n : List Int) (v0 : Value) (hN : Nums .u64 W v0 n) (hn : ∀ i, i < n.length → 0 ≤ ix n i ∧ ix n i ≤ 18446744073709551615) (yn : n.length ≤ 1048576)
    (m : List Int) (v1 : Value) (hM : Nums .i64 W v1 m) (hm : ∀ i, i < m.length → -9223372036854775808 ≤ ix m i ∧ ix m i ≤ 9223372036854775807) (ym : m.length ≤ 1048576)
    (L : List (List Int)) (v2 : Value) (hL : Lists W v2 L) (bL : ∀ i, Byt (L.getD i [])) (yL : L.length ≤ 1048576) (yL' : ∀ i, (L.getD i []).length ≤ 1048576)
    (S : List ByteArray) (v3 : Value) (hS : Texts W v3 S) (yS : S.length ≤ 1048576) (yS' : ∀ i, (S.getD i ⟨#[]⟩).size ≤ 1048576) :
    Calls Tryd.prog 7 #[v0, v1, v2, v3] W fun e w' => e = .returned (.bool true) ∧ Old W w' := by
  have Ha := Lib.hid (awake_any W hT)
  have HT := Lib.hid hT
  have Z0 := Lib.hid (fun k => catL_len (f0 n) (f0_len hn) k)
  have Z1 := Lib.hid (fun k => catL_len (f1 m) (f1_len hm) k)
  have Z2 := Lib.hid (fun k => catL_len (f2 L) (f2_len yL') k)
  have Z3 := Lib.hid (fun k => catL_len (f3 S) (f3_len yS') k)
  obtain ⟨_, cn, bn, on, rfl, n1, n2, an, hn0⟩ := hN
  obtain ⟨_, cm, bm, om, rfl, m1, m2, am, hm0⟩ := hM
  obtain ⟨_, cL, bLk, oL, rfl, L1, L2, aL, hL0⟩ := hL
  obtain ⟨_, cS, bS, oS, rfl, S1, S2, aS, hS0⟩ := hS
  have HN := Lib.hid hn0
  have HM := Lib.hid hm0
  have HL := Lib.hid hL0
  have HS := Lib.hid hS0
  have Hn := Lib.hid hn
  have Hm := Lib.hid hm
  have HbL := Lib.hid bL
  have HyL := Lib.hid yL'
  have HyS := Lib.hid yS'
  have An := Lib.hid an
  have Am := Lib.hid am
  have AL := Lib.hid aL
  have AS := Lib.hid aS
  clear hn0 hm0 hL0 hS0 hT hn hm bL yL' yS' an am aL aS
  go_enter Tryd.func7, Tryd.ntmps7
  go_wp2_with fail
  refine Ha.out.mono ?_
  rintro e w1 ⟨rfl, o1⟩
  go_wp2_with fail
  go_loopw [9, 31] (fun b j wr => ∃ (k : Nat), k ≤ n.length ∧ j = .int .i64 k ∧ Nums .u8 wr b (catL (f0 n) k) ∧ Old W wr) (fun _ j _ => n.length - (intOf j).toNat)
  case atStart => exact ⟨0, Nat.zero_le _, rfl, Nums.nil _, o1⟩
  case round =>
    obtain ⟨k, hk, rfl, hown, hold⟩ := hrel
    obtain ⟨a, cap, rfl, _, _⟩ := hown.form
    have z0 := Z0.out k
    by_cases hlt : k < n.length
    · have hx := Hn.out k hlt
      have hc := later (HN.out k hlt wr hold)
      have Hs := Lib.hid (show catL (f0 n) (k + 1) = catL (f0 n) k ++ pieceN (ix n k).toNat from rfl)
      have hk1 : (k : Int) < n.length := by omega
      obtain rfl := An.out (by omega)
      have Hown := Lib.hid hown
      clear hown
      generalize ix n k = x at *
      obtain ⟨X, rfl⟩ := Int.eq_ofNat_of_zero_le hx.1
      rw [Int.toNat_natCast] at Hs
      have Hm16 := Lib.hid (lowL_mod16 X)
      have Hm32 := Lib.hid (lowL_mod32 X)
      generalize catL (f0 n) k = C at *
      go_wp2_with fail
      refine (PutUint_any C _ X wr Hown.out (by omega) (by omega)).mono ?_
      rintro e w2 ⟨⟨u0, rfl, hu0⟩, ho2⟩
      obtain ⟨ad0, cp0, rfl, _, _⟩ := ownsRow_form hu0
      have hp10 := puts_len10 (n := X) (by omega)
      have hv0 := hu0.nums
      rw [List.length_append] at hv0
      go_wp2_with fail
      have hw16 : ((X : Int) % 65536) = ((X % 65536 : Nat) : Int) := by omega
      first | rw [wrap_u16] | skip
      rw [hw16]
      refine (Put16_any (C ++ puts X) _ (X % 65536) w2 hv0 (by rw [List.length_append]; omega) (by omega)).mono ?_
      rw [Hm16.out]
      rintro e w3 ⟨⟨u1, rfl, hu1⟩, ho3⟩
      have hu1l := lowL_len 2 X
      obtain ⟨ad1, cp1, rfl, _, _⟩ := ownsRow_form hu1
      have hv1 := hu1.nums
      rw [List.length_append, List.length_append] at hv1
      clear hw16
      go_wp2_with fail
      have hw32 : ((X : Int) % 4294967296) = ((X % 4294967296 : Nat) : Int) := by omega
      first | rw [wrap_u32'] | skip
      rw [hw32]
      refine (Put32_any ((C ++ puts X) ++ lowL X 2) _ (X % 4294967296) w3 hv1 (by rw [List.length_append, List.length_append]; omega) (by omega)).mono ?_
      rw [Hm32.out]
      rintro e w4 ⟨⟨u2, rfl, hu2⟩, ho4⟩
      obtain ⟨ad2, cp2, rfl, _, _⟩ := ownsRow_form hu2
      clear hw32
      have hu2' := hu2.nums
      rw [List.length_append, List.length_append, List.length_append] at hu2'
      rw [List.append_assoc, List.append_assoc, ← List.append_assoc (puts X), show (puts X ++ lowL X 2) ++ lowL X 4 = pieceN X from rfl, ← Hs.out] at hu2'
      have Hu2 := Lib.hid hu2'
      clear hu2' hu2 hu1 hu0
      go_wp2_with fail
      go_roundw
      case rel => exact ⟨k + 1, by omega, by go_num, Hu2.out, ((hold.trans ho2).trans ho3).trans ho4⟩
      case measure => simp [intOf]; omega
    · obtain rfl : k = n.length := by omega
      have Hown := Lib.hid hown
      clear hown hlt hk
      have zB0 := Z0.out n.length
      generalize hB0 : catL (f0 n) n.length = B0 at *
      have HB0 := Lib.hid hB0
      clear hB0 z0
      go_wp2_with fail
      generalize wr = wa at *
      go_loopw [9, 47] (fun b j wr => ∃ (k : Nat), k ≤ m.length ∧ j = .int .i64 k ∧ Nums .u8 wr b (B0 ++ catL (f1 m) k) ∧ Old W wr) (fun _ j _ => m.length - (intOf j).toNat)
      case atStart => exact ⟨0, Nat.zero_le _, rfl, by rw [show catL (f1 m) 0 = [] from rfl, List.append_nil]; exact Hown.out, hold⟩
      case round =>
        obtain ⟨k, hk, rfl, hown, hold⟩ := hrel
        obtain ⟨a, cap, rfl, _, _⟩ := hown.form
        have z1 : (B0 ++ catL (f1 m) k).length ≤ B0.length + k * 10 := by rw [List.length_append]; have := Z1.out k; omega
        by_cases hlt : k < m.length
        · have hx := Hm.out k hlt
          have hc := later (HM.out k hlt wr hold)
          have Hs := Lib.hid (show B0 ++ catL (f1 m) (k + 1) = (B0 ++ catL (f1 m) k) ++ puts (zig (ix m k)) from by rw [List.append_assoc]; rfl)
          have hk1 : (k : Int) < m.length := by omega
          obtain rfl := Am.out (by omega)
          have Hown := Lib.hid hown
          clear hown
          generalize ix m k = x at *
          generalize B0 ++ catL (f1 m) k = C at *
          go_wp2_with fail
          refine (PutInt_any C _ x wr Hown.out (by omega) hx.1 hx.2).mono ?_
          rintro e w2 ⟨⟨u0, rfl, hu0⟩, ho2⟩
          obtain ⟨ad0, cp0, rfl, _, _⟩ := ownsRow_form hu0
          have hu2' := hu0.nums
          rw [List.length_append, ← Hs.out] at hu2'
          have Hu2 := Lib.hid hu2'
          clear hu2' hu0
          go_wp2_with fail
          go_roundw
          case rel => exact ⟨k + 1, by omega, by go_num, Hu2.out, hold.trans ho2⟩
          case measure => simp [intOf]; omega
        · obtain rfl : k = m.length := by omega
          have Hown := Lib.hid hown
          clear hown hlt hk
          generalize hB1 : B0 ++ catL (f1 m) m.length = B1 at *
          have HB1 := Lib.hid hB1
          clear hB1
          go_wp2_with fail
          generalize wr = wb at *
          go_loopw [9, 57] (fun b j wr => ∃ (k : Nat), k ≤ L.length ∧ j = .int .i64 k ∧ Nums .u8 wr b (B1 ++ catL (f2 L) k) ∧ Old W wr) (fun _ j _ => L.length - (intOf j).toNat)
          case atStart => exact ⟨0, Nat.zero_le _, rfl, by rw [show catL (f2 L) 0 = [] from rfl, List.append_nil]; exact Hown.out, hold⟩
          case round =>
            obtain ⟨k, hk, rfl, hown, hold⟩ := hrel
            obtain ⟨a, cap, rfl, _, _⟩ := hown.form
            have z2 : (B1 ++ catL (f2 L) k).length ≤ B1.length + k * 1048586 := by rw [List.length_append]; have := Z2.out k; omega
            by_cases hlt : k < L.length
            · obtain ⟨u, hcu, hq⟩ := HL.out k hlt
              have hc : ∀ V, Old wr V → _ := fun V oV => hcu V (hold.trans oV)
              have hyq := HyL.out k
              have Hs := Lib.hid (show B1 ++ catL (f2 L) (k + 1) = (B1 ++ catL (f2 L) k) ++ (puts (L.getD k []).length ++ L.getD k []) from by rw [List.append_assoc]; rfl)
              have hk1 : (k : Int) < L.length := by omega
              obtain rfl := AL.out (by omega)
              have Hown := Lib.hid hown
              have Hq := Lib.hid hq
              clear hown hcu hq
              generalize L.getD k [] = q at *
              obtain ⟨aq, cq, rfl, _, _⟩ := Hq.out.form
              generalize B1 ++ catL (f2 L) k = C at *
              go_wp2_with fail
              refine (twin_any q _ wr (Hq.out.old hold) (by omega)).mono ?_
              rintro e w2 ⟨⟨uq, rfl, huq⟩, ho2⟩
              go_wp2_with fail
              refine (PutBytes_any C q _ _ w2 (Hown.out.old ho2) huq.nums (by omega)).mono ?_
              rintro e w3 ⟨⟨u0, rfl, hu0⟩, ho3⟩
              obtain ⟨ad0, cp0, rfl, _, _⟩ := ownsRow_form hu0
              have hu2' := hu0.nums
              rw [List.length_append, List.length_append, ← Hs.out] at hu2'
              have Hu2 := Lib.hid hu2'
              clear hu2' hu0
              go_wp2_with fail
              go_roundw
              case rel => exact ⟨k + 1, by omega, by go_num, Hu2.out, (hold.trans ho2).trans ho3⟩
              case measure => simp [intOf]; omega
            · obtain rfl : k = L.length := by omega
              have Hown := Lib.hid hown
              clear hown hlt hk
              generalize hB2 : B1 ++ catL (f2 L) L.length = B2 at *
              have HB2 := Lib.hid hB2
              clear hB2
              go_wp2_with fail
              generalize wr = wc at *
              go_loopw [9, 68] (fun b j wr => ∃ (k : Nat), k ≤ S.length ∧ j = .int .i64 k ∧ Nums .u8 wr b (B2 ++ catL (f3 S) k) ∧ Old W wr) (fun _ j _ => S.length - (intOf j).toNat)
              case atStart => exact ⟨0, Nat.zero_le _, rfl, by rw [show catL (f3 S) 0 = [] from rfl, List.append_nil]; exact Hown.out, hold⟩
              case round =>
                obtain ⟨k, hk, rfl, hown, hold⟩ := hrel
                obtain ⟨a, cap, rfl, _, _⟩ := hown.form
                have z3 : (B2 ++ catL (f3 S) k).length ≤ B2.length + k * 1048586 := by rw [List.length_append]; have := Z3.out k; omega
                by_cases hlt : k < S.length
                · have hc := later (HS.out k hlt wr hold)
                  have hyq := HyS.out k
                  have Hs := Lib.hid (show B2 ++ catL (f3 S) (k + 1) = (B2 ++ catL (f3 S) k) ++ (puts (S.getD k ⟨#[]⟩).size ++ bytesOf (S.getD k ⟨#[]⟩)) from by rw [List.append_assoc]; rfl)
                  have hk1 : (k : Int) < S.length := by omega
                  obtain rfl := AS.out (by omega)
                  have Hown := Lib.hid hown
                  clear hown
                  generalize S.getD k ⟨#[]⟩ = s at *
                  generalize B2 ++ catL (f3 S) k = C at *
                  go_wp2_with fail
                  refine (PutText_any C s _ wr Hown.out (by omega)).mono ?_
                  rintro e w2 ⟨⟨u0, rfl, hu0⟩, ho2⟩
                  obtain ⟨ad0, cp0, rfl, _, _⟩ := ownsRow_form hu0
                  have hu2' := hu0.nums
                  rw [List.length_append, List.length_append, ← Hs.out] at hu2'
                  have Hu2 := Lib.hid hu2'
                  clear hu2' hu0
                  go_wp2_with fail
                  go_roundw
                  case rel => exact ⟨k + 1, by omega, by go_num, Hu2.out, hold.trans ho2⟩
                  case measure => simp [intOf]; omega
                · obtain rfl : k = S.length := by omega
                  have Hown := Lib.hid hown
                  clear hown hlt hk
                  generalize hB3 : B2 ++ catL (f3 S) S.length = B3 at *
                  have HB3 := Lib.hid hB3
                  clear hB3
                  have R0 : ∀ k, k < n.length → ∃ C, B3 = catL (f0 n) k ++ (pieceN (ix n k).toNat ++ C) := fun k hk => by
                    obtain ⟨C, hC⟩ := catL_split (f0 n) hk
                    exact ⟨C ++ (catL (f1 m) m.length ++ (catL (f2 L) L.length ++ catL (f3 S) S.length)), by rw [← HB3.out, ← HB2.out, ← HB1.out, ← HB0.out, hC]; simp only [List.append_assoc]; rfl⟩
                  have R1 : ∀ k, k < m.length → ∃ C, B3 = (B0 ++ catL (f1 m) k) ++ (puts (zig (ix m k)) ++ C) := fun k hk => by
                    obtain ⟨C, hC⟩ := catL_split (f1 m) hk
                    exact ⟨C ++ (catL (f2 L) L.length ++ catL (f3 S) S.length), by rw [← HB3.out, ← HB2.out, ← HB1.out, hC]; simp only [List.append_assoc]; rfl⟩
                  have R2 : ∀ k, k < L.length → ∃ C, B3 = (B1 ++ catL (f2 L) k) ++ ((puts (L.getD k []).length ++ L.getD k []) ++ C) := fun k hk => by
                    obtain ⟨C, hC⟩ := catL_split (f2 L) hk
                    exact ⟨C ++ catL (f3 S) S.length, by rw [← HB3.out, ← HB2.out, hC]; simp only [List.append_assoc, f2]⟩
                  have R3 : ∀ k, k < S.length → ∃ C, B3 = (B2 ++ catL (f3 S) k) ++ ((puts (S.getD k ⟨#[]⟩).size ++ bytesOf (S.getD k ⟨#[]⟩)) ++ C) := fun k hk => by
                    obtain ⟨C, hC⟩ := catL_split (f3 S) hk
                    exact ⟨C, by rw [← HB3.out, hC]; simp only [List.append_assoc, f3]⟩
                  have hbB : Byt B3 := by
                    rw [← HB3.out, ← HB2.out, ← HB1.out, ← HB0.out]
                    exact byt_append (byt_append (byt_append (catL_byt _ (f0_byt n) _) (catL_byt _ (f1_byt m) _)) (catL_byt _ (f2_byt HbL.out) _)) (catL_byt _ (f3_byt S) _)
                  have HR0 := Lib.hid R0
                  have HR1 := Lib.hid R1
                  have HR2 := Lib.hid R2
                  have HR3 := Lib.hid R3
                  have HbB := Lib.hid hbB
                  have hzB : B3.length ≤ 140737488355328 := by omega
                  clear R0 R1 R2 R3 hbB z1 z2 z3 zB0
                  go_wp2_with fail
                  refine (New_any B3 _ wr Hown.out hzB).mono ?_
                  rintro e w2 ⟨⟨c, rfl, hcs, hcur⟩, ho2⟩
                  have hcW : W.heap.size ≤ c := Nat.le_trans hold.size hcs
                  have hold2 := hold.trans ho2
                  have Hcur := Lib.hid hcur
                  clear hcur hcs Hown
                  go_wp2_with fail
                  generalize wr = wd at *
                  go_loopw [80] (fun j wr => ∃ (k : Nat), k ≤ n.length ∧ j = .int .i64 k ∧ Cur wr c B3 (catL (f0 n) k).length 0 ∧ Old W wr) (fun j _ => n.length - (intOf j).toNat)
                  case atStart => exact ⟨0, Nat.zero_le _, rfl, Hcur.out, hold2⟩
                  case round =>
                    obtain ⟨k, hk, rfl, hcur, hold⟩ := hrel
                    have Hcur := Lib.hid hcur
                    clear hcur
                    by_cases hlt : k < n.length
                    · have hx := Hn.out k hlt
                      have hc := later (HN.out k hlt wr hold)
                      have Hs := Lib.hid (show (catL (f0 n) (k + 1)).length = (catL (f0 n) k).length + (puts (ix n k).toNat).length + 2 + 4 from by rw [show catL (f0 n) (k + 1) = catL (f0 n) k ++ pieceN (ix n k).toNat from rfl, List.length_append, pieceN_len]; omega)
                      have hk1 : (k : Int) < n.length := by omega
                      obtain ⟨C, hC⟩ := HR0.out k hlt
                      obtain ⟨e1, e2, e3⟩ := read_num (by omega) hC
                      obtain rfl := An.out (by omega)
                      clear hC
                      generalize ix n k = x at *
                      obtain ⟨X, rfl⟩ := Int.eq_ofNat_of_zero_le hx.1
                      rw [Int.toNat_natCast] at Hs e1 e2 e3
                      have E1 := Lib.hid e1
                      have E2 := Lib.hid e2
                      have E3 := Lib.hid e3
                      clear e1 e2 e3
                      generalize (catL (f0 n) k).length = p at *
                      have L2 := lowN_lowL 2 X
                      have L4 := lowN_lowL 4 X
                      go_wp2_with fail
                      refine (Uint_any Hcur.out HbB.out hzB).mono ?_
                      rw [E1.out]
                      rintro r w3 ⟨rfl, hc3, ho3⟩
                      go_wp2_with fail
                      refine (Take16_any hc3 HbB.out hzB).mono ?_
                      rw [E2.out, L2]
                      rintro r w4 ⟨rfl, hc4, ho4⟩
                      go_wp2_with fail
                      refine (Take32_any hc4 HbB.out hzB).mono ?_
                      rw [E3.out, L4]
                      rintro r w5 ⟨rfl, hc5, ho5⟩
                      go_wp2_with fail
                      go_roundw
                      case rel => exact ⟨k + 1, by omega, by go_num, by rw [Hs.out]; exact hc5, ((ho3.trans ho4).trans ho5).base hold hcW⟩
                      case measure => simp [intOf]; omega
                    · obtain rfl : k = n.length := by omega
                      have Hcur' := Hcur
                      rw [HB0.out] at Hcur'
                      clear Hcur hlt hk
                      go_wp2_with fail
                      generalize wr = we at *
                      go_loopw [105] (fun j wr => ∃ (k : Nat), k ≤ m.length ∧ j = .int .i64 k ∧ Cur wr c B3 (B0 ++ catL (f1 m) k).length 0 ∧ Old W wr) (fun j _ => m.length - (intOf j).toNat)
                      case atStart => exact ⟨0, Nat.zero_le _, rfl, by rw [show catL (f1 m) 0 = [] from rfl, List.append_nil]; exact Hcur'.out, hold⟩
                      case round =>
                        obtain ⟨k, hk, rfl, hcur, hold⟩ := hrel
                        have Hcur := Lib.hid hcur
                        clear hcur Hcur'
                        by_cases hlt : k < m.length
                        · have hx := Hm.out k hlt
                          have hc := later (HM.out k hlt wr hold)
                          have Hs := Lib.hid (show (B0 ++ catL (f1 m) (k + 1)).length = (B0 ++ catL (f1 m) k).length + (puts (zig (ix m k))).length from by rw [show catL (f1 m) (k + 1) = catL (f1 m) k ++ puts (zig (ix m k)) from rfl, ← List.append_assoc, List.length_append])
                          have hk1 : (k : Int) < m.length := by omega
                          obtain ⟨C, hC⟩ := HR1.out k hlt
                          have e1 := uint_mid (A := B0 ++ catL (f1 m) k) (C := C) (zig_lt hx.1 hx.2)
                          rw [← hC] at e1
                          obtain rfl := Am.out (by omega)
                          clear hC
                          generalize ix m k = x at *
                          have E1 := Lib.hid e1
                          have Hz := Lib.hid (zag_zig x)
                          clear e1
                          generalize (B0 ++ catL (f1 m) k).length = p at *
                          go_wp2_with fail
                          refine (Int_any Hcur.out HbB.out hzB).mono ?_
                          rw [E1.out, Hz.out]
                          rintro r w3 ⟨rfl, hc3, ho3⟩
                          go_wp2_with fail
                          go_roundw
                          case rel => exact ⟨k + 1, by omega, by go_num, by rw [Hs.out]; exact hc3, ho3.base hold hcW⟩
                          case measure => simp [intOf]; omega
                        · obtain rfl : k = m.length := by omega
                          have Hcur' := Hcur
                          rw [HB1.out] at Hcur'
                          clear Hcur hlt hk
                          go_wp2_with fail
                          generalize wr = wf at *
                          go_loopw [116] (fun j wr => ∃ (k : Nat), k ≤ L.length ∧ j = .int .i64 k ∧ Cur wr c B3 (B1 ++ catL (f2 L) k).length 0 ∧ Old W wr) (fun j _ => L.length - (intOf j).toNat)
                          case atStart => exact ⟨0, Nat.zero_le _, rfl, by rw [show catL (f2 L) 0 = [] from rfl, List.append_nil]; exact Hcur'.out, hold⟩
                          case round =>
                            obtain ⟨k, hk, rfl, hcur, hold⟩ := hrel
                            have Hcur := Lib.hid hcur
                            clear hcur Hcur'
                            by_cases hlt : k < L.length
                            · obtain ⟨u, hcu, hq⟩ := HL.out k hlt
                              have hc : ∀ V, Old wr V → _ := fun V oV => hcu V (hold.trans oV)
                              have hyq := HyL.out k
                              have hbq := HbL.out k
                              have Hs := Lib.hid (show (B1 ++ catL (f2 L) (k + 1)).length = (B1 ++ catL (f2 L) k).length + (puts (L.getD k []).length ++ L.getD k []).length from by rw [show catL (f2 L) (k + 1) = catL (f2 L) k ++ (puts (L.getD k []).length ++ L.getD k []) from rfl, ← List.append_assoc, List.length_append])
                              have hk1 : (k : Int) < L.length := by omega
                              obtain ⟨C, hC⟩ := HR2.out k hlt
                              have e1 := bytes_mid (A := B1 ++ catL (f2 L) k) (C := C) (q := L.getD k []) (by omega)
                              rw [← hC] at e1
                              obtain rfl := AL.out (by omega)
                              have Hq := Lib.hid hq
                              clear hcu hq hC
                              generalize L.getD k [] = q at *
                              obtain ⟨aq, cq, rfl, _, _⟩ := Hq.out.form
                              have E1 := Lib.hid e1
                              clear e1
                              generalize (B1 ++ catL (f2 L) k).length = p at *
                              go_wp2_with fail
                              refine (Bytes_any Hcur.out HbB.out hzB q.length (by omega) (by omega)).mono ?_
                              rw [E1.out]
                              rintro r w3 ⟨uq, rfl, huq, hc3, ho3⟩
                              go_wp2_with fail
                              refine (same_any q q _ _ w3 huq.nums (Hq.out.old (ho3.base hold hcW)) hbq hbq).mono ?_
                              rw [eqL_self]
                              rintro r w4 ⟨rfl, rfl⟩
                              go_wp2_with fail
                              go_roundw
                              case rel => exact ⟨k + 1, by omega, by go_num, by rw [Hs.out]; exact hc3, ho3.base hold hcW⟩
                              case measure => simp [intOf]; omega
                            · obtain rfl : k = L.length := by omega
                              have Hcur' := Hcur
                              rw [HB2.out] at Hcur'
                              clear Hcur hlt hk
                              go_wp2_with fail
                              generalize wr = wg at *
                              go_loopw [130] (fun j wr => ∃ (k : Nat), k ≤ S.length ∧ j = .int .i64 k ∧ Cur wr c B3 (B2 ++ catL (f3 S) k).length 0 ∧ Old W wr) (fun j _ => S.length - (intOf j).toNat)
                              case atStart => exact ⟨0, Nat.zero_le _, rfl, by rw [show catL (f3 S) 0 = [] from rfl, List.append_nil]; exact Hcur'.out, hold⟩
                              case round =>
                                obtain ⟨k, hk, rfl, hcur, hold⟩ := hrel
                                have Hcur := Lib.hid hcur
                                clear hcur Hcur'
                                by_cases hlt : k < S.length
                                · have hc := later (HS.out k hlt wr hold)
                                  have hyq := HyS.out k
                                  have Hs := Lib.hid (show (B2 ++ catL (f3 S) (k + 1)).length = (B2 ++ catL (f3 S) k).length + (puts (S.getD k ⟨#[]⟩).size ++ bytesOf (S.getD k ⟨#[]⟩)).length from by rw [show catL (f3 S) (k + 1) = catL (f3 S) k ++ (puts (S.getD k ⟨#[]⟩).size ++ bytesOf (S.getD k ⟨#[]⟩)) from rfl, ← List.append_assoc, List.length_append])
                                  have hk1 : (k : Int) < S.length := by omega
                                  obtain ⟨C, hC⟩ := HR3.out k hlt
                                  obtain rfl := AS.out (by omega)
                                  generalize S.getD k ⟨#[]⟩ = s at *
                                  have E0 := Lib.hid (fun h => text_no (A := B2 ++ catL (f3 S) k) (C := C) (s := s) (by omega) h)
                                  have E1 := Lib.hid (fun h => text_mid (A := B2 ++ catL (f3 S) k) (C := C) (s := s) (by omega) h)
                                  rw [← hC] at E0 E1
                                  clear hC
                                  generalize (B2 ++ catL (f3 S) k).length = p at *
                                  have HM := Lib.hid (RMay_any s wr (by omega))
                                  cases hpl : (plainAt s.data.toList 0).2 with
                                  | false =>
                                    rw [hpl] at HM
                                    go_wp2_with fail
                                    refine HM.out.mono ?_
                                    rintro r w3 ⟨rfl, ho3⟩
                                    go_wp2_with fail
                                    refine (Text_any W HT.out (hold.trans ho3) hcW (Hcur.out.old ho3) HbB.out hzB s.size (by omega) (by omega)).mono ?_
                                    rw [E0.out hpl]
                                    rintro r w4 ⟨rfl, hc4, ho4⟩
                                    go_wp2_with fail
                                    refine (Err_any hc4).mono ?_
                                    rintro r w5 ⟨rfl, rfl⟩
                                    go_wp2_with fail
                                    go_ret
                                    exact ⟨rfl, ho4.base (hold.trans ho3) hcW⟩
                                  | true =>
                                    rw [hpl] at HM
                                    go_wp2_with fail
                                    refine HM.out.mono ?_
                                    rintro r w3 ⟨rfl, ho3⟩
                                    go_wp2_with fail
                                    refine (Text_any W HT.out (hold.trans ho3) hcW (Hcur.out.old ho3) HbB.out hzB s.size (by omega) (by omega)).mono ?_
                                    rw [E1.out hpl]
                                    rintro r w4 ⟨rfl, hc4, ho4⟩
                                    go_wp2_with fail
                                    go_roundw
                                    case rel => exact ⟨k + 1, by omega, by go_num, by rw [Hs.out]; exact hc4, ho4.base (hold.trans ho3) hcW⟩
                                    case measure => simp [intOf]; omega
                                · obtain rfl : k = S.length := by omega
                                  have Hcur' := Hcur
                                  rw [HB3.out] at Hcur'
                                  clear Hcur hlt hk
                                  have He := Lib.hid (endE_done (l := B3) (p := B3.length) (by omega))
                                  go_wp2_with fail
                                  refine (End_any Hcur'.out (by omega)).mono ?_
                                  rw [He.out]
                                  rintro r w3 ⟨rfl, ho3⟩
                                  go_wp2_with fail
                                  refine (Left_any (Hcur'.out.old ho3) (by omega)).mono ?_
                                  rintro r w4 ⟨rfl, ho4⟩
                                  rw [Int.sub_self]
                                  go_wp2_with fail
                                  go_ret
                                  exact ⟨rfl, (hold.trans ho3).trans ho4⟩
end Go.Proofs.YtaclkoipobgmkaaDoor
