/-
  OCTET PUTS: the walk.
-/
import Derived.Test.YtaclkoipobgmkaaDoorOctPuts2
import Derived.Test.YtaclkoipobgmkaaDoorOctetBurstWalk
import Derived.Deep.RegionHeld3
import Derived.Deep.AppendLies
import Derived.Deep.DeepCutAuto
namespace Go.Proofs.YtaclkoipobgmkaaDoor
open Go.RowKit
attribute [local go_sem] Old.refl Old.alloc Old.drew Old.setCell OldW.old

section
variable {P : Program} {ops : Array Oper} {rest : List Oper} {o : Oper} {a : Act} {Q : Exit → Act → World → Prop} {k : IntKind}
theorem wpList_make_cap {w0 w : World} (hg : o.guard = none) (l c : Operand) (T : TypeId) (hop : o.op = Op.makeSlice T l c) (E : TypeId) (ht : P.underlying T = some (.slice E))
    {bytes : Nat} (hinfo : (P.info? E).map (fun i => (i.zero, i.size, i.bytes)) = some (some (.int k 0), 1, bytes)) (n : Nat) (hl : a.eval l = .int .i64 0) (hc : a.eval c = .int .i64 n) (hn : n ≤ 9223372036854775807) (hnb : bytes * n ≤ 281474976710656) (hold : Old w0 w)
    (hK : ∀ w', OwnN k E w0 w' (.slice (some ⟨w.heap.size, 0, none⟩) n n) (List.replicate n 0) → Old w w' → w.heap.size < w'.heap.size → wpList P ops Q rest (a.put o.dst (.slice (some ⟨w.heap.size, 0, none⟩) 0 n)) w') : wpList P ops Q (o :: rest) a w := by
  obtain ⟨i, hi, hz0, hz1, hz2⟩ := info_parts hinfo
  refine wpList_plain hg fun K hK' => ?_
  have hb' : (i.bytes : Int) * (n : Int) ≤ 281474976710656 := by
    rw [hz2]
    have h : ((bytes * n : Nat) : Int) ≤ 281474976710656 := by omega
    rwa [Int.natCast_mul] at h
  have hr := run_make (P := P) w T E i (.int k 0) ht hi hz0 .i64 .i64 0 n (Int.le_refl _) (by omega) hb' (by omega)
  simp only [Int.toNat_zero, Int.toNat_natCast, hz1, Nat.mul_one] at hr
  unfold Oper.wp
  simp [execOp, hop, hl, hc, hr, Result.andThen]
  refine hK' _ _ (hK _ ?_ ((Old.refl w).alloc _) (by simp [go_sem]))
  have hrow : (madeCells (Value.int k 0).cells n) = ((List.replicate n (0 : Int)).map (Value.int k)).toArray := by
    apply Array.toList_inj.1
    rw [show (Value.int k 0).cells = #[Value.int k 0] from rfl, toList_madeCells_one]
    simp
  rw [hrow]
  have := OwnN.of_raw (k := k) (E := E) (w0 := w0) (w := w.alloc (.cells ((List.replicate n (0 : Int)).map (Value.int k)).toArray E)) (g := w.heap.size) (l := List.replicate n 0) (heap_alloc_new w _) hold.size (by simp; omega)
  rwa [List.length_replicate] at this
theorem wpList_append_room {w0 w : World} (hgd : o.guard = none) (s x : Operand) (T : TypeId) (ho : o.op = .call { callee := .builtin .append, args := #[s, x], argTypes := #[T, T] })
    (E : TypeId) (ht : P.underlying T = some (.slice E)) {bytes : Nat} (hinfo : (P.info? E).map (fun i => (i.zero, i.size, i.bytes)) = some (some (.int k 0), 1, bytes))
    (g n : Nat) (hs : a.eval s = .slice (some ⟨g, 0, none⟩) 0 n) (B : List Int) (hown : OwnN k E w0 w (.slice (some ⟨g, 0, none⟩) n n) B) (hg0 : w0.heap.size ≤ g) (l : List Int) (vx : Value) (hx : a.eval x = vx) (hu : Nums k w vx l)
    (hl : l.length ≤ n) (hn : n ≤ 9223372036854775807) (hold : Old w0 w)
    (h : ∀ w', OwnN k E w0 w' (.slice (some ⟨g, 0, none⟩) n n) (l ++ B.drop l.length) → Old w0 w' → wpList P ops Q rest (a.put o.dst (.slice (some ⟨g, 0, none⟩) l.length n)) w') : wpList P ops Q (o :: rest) a w := by
  obtain ⟨i, hi, hz0, hz1, hz2⟩ := info_parts hinfo
  obtain ⟨ao, cap, b, off, rfl, hn1, hn2, ha, ht0⟩ := hu
  obtain ⟨hraw, hlen⟩ := hown.raw
  refine wpList_plain hgd fun K hK => ?_
  by_cases hm : 0 < l.length
  · obtain rfl := ha hm
    have hr := run_append_room (P := P) w T o.type E i ht hi g 0 n _ hraw ⟨b, off, none⟩ l.length cap (l.map (.int k)) (by simp [hz1]) (Nums.cells ht0 (Old.refl w)) (nums_one l) (by omega) (by simp; omega)
    unfold Oper.wp
    simp only [hz1, Nat.zero_mul, List.take_zero, List.nil_append, Nat.zero_add, List.length_map] at hr
    simp [execOp, ho, resolve, invoke, builtin, hs, hx, hr, Result.andThen]
    refine hK _ _ (h _ ?_ (below_setRow hold hg0 _))
    have e : (l.map (Value.int k) ++ (B.map (Value.int k)).drop l.length) = (l ++ B.drop l.length).map (Value.int k) := by rw [List.map_append, List.map_drop]
    have := OwnN.of_raw (w0 := w0) (E := E) (l := l ++ B.drop l.length) (setRow_heap w g _ ((l ++ B.drop l.length).map (Value.int k)).toArray _ _ hraw) hg0 (by simp; omega)
    rw [show (l ++ B.drop l.length).length = n from by simp; omega] at this
    simpa [← e] using this
  · obtain rfl : l = [] := List.eq_nil_of_length_eq_zero (by omega)
    have hrun : (Builtin.append_ #[T, T] o.type #[.slice (some ⟨g, 0, none⟩) 0 n, .slice ao 0 cap]).run P w = .ok (.slice (some ⟨g, 0, none⟩) 0 n) w := by
      cases ao with
      | none => simp [Builtin.append_, run_underlying ht, sizeOf, typeInfo, hi, Builtin.lenOf, Builtin.firstCells, storeCells]
      | some x => simp [Builtin.append_, run_underlying ht, sizeOf, typeInfo, hi, Builtin.lenOf, Builtin.firstCells, storeCells, loadCells, loadCellsFrom]
    unfold Oper.wp
    simp [execOp, ho, resolve, invoke, builtin, hs, hx, hrun, Result.andThen]
    exact hK _ _ (h w (by simpa using hown) hold)
end
/-- w's slice v holds l, but for the block g, and later -/
theorem Nums.apart {k : IntKind} {E : TypeId} {w0 w : World} {v : Value} {l : List Int} (h : OwnN k E w0 w v l) {g : Nat} (hg : g < w0.heap.size) {W : World} (o : OldBut g w W) : Nums k W v l := by
  obtain ⟨h1, h2⟩ := h
  have h3 : OwnN k E w0 W v l := by
    refine ⟨h1, ?_⟩
    rcases h2 with h2 | ⟨g', cap', cur, e, hb, hc, r⟩
    · exact .inl h2
    · refine .inr ⟨g', cap', cur, e, hb, ?_, r⟩
      rw [o.block g' (Array.getElem?_eq_some_iff.1 hc).1 (by omega)]
      exact hc
  exact h3.nums
/-- what each of the six lays -/
def wantL (n : Nat) (i : Int) (q : List Int) (s : ByteArray) : Nat → List Int
  | 0 => puts n
  | 1 => puts (zig i)
  | 2 => lowL n 2
  | 3 => lowL n 4
  | 4 => puts q.length ++ q
  | _ => puts s.size ++ bytesOf s
theorem byt_append {a b : List Int} (ha : Byt a) (hb : Byt b) : Byt (a ++ b) := by
  intro i hi
  rw [List.length_append] at hi
  by_cases h : i < a.length
  · have := ha i h
    simpa [ix, List.getD, List.getElem?_append, h] using this
  · have := hb (i - a.length) (by omega)
    simpa [ix, List.getD, List.getElem?_append, h] using this
theorem wantL_byt (n : Nat) (i : Int) {q : List Int} (hq : Byt q) (s : ByteArray) (k : Nat) : Byt (wantL n i q s k) := by
  unfold wantL
  split
  · exact puts_byt _
  · exact puts_byt _
  · exact lowL_byt _ _
  · exact lowL_byt _ _
  · exact byt_append (puts_byt _) hq
  · exact byt_append (puts_byt _) (bytesOf_byt s)
theorem wantL_pos (n : Nat) (i : Int) (q : List Int) (s : ByteArray) (k : Nat) : 0 < (wantL n i q s k).length := by
  unfold wantL
  split
  · exact puts_pos _
  · exact puts_pos _
  · rw [lowL_len]; omega
  · rw [lowL_len]; omega
  · have := puts_pos q.length; simp; omega
  · have := puts_pos s.size; simp; omega
theorem wantL_small {n : Nat} {i : Int} {q : List Int} {s : ByteArray} (hn : n < 18446744073709551616) (hi : -9223372036854775808 ≤ i ∧ i ≤ 9223372036854775807) (yq : q.length ≤ 1048576) (ys : s.size ≤ 1048576) (k : Nat) : (wantL n i q s k).length ≤ 1048600 := by
  have h1 := puts_len10 hn
  have h2 := puts_len10 (zig_lt hi.1 hi.2)
  have h3 := puts_len10 (n := q.length) (by omega)
  have h4 := puts_len10 (n := s.size) (by omega)
  have h5 := bytesOf_len s
  unfold wantL
  split
  · omega
  · omega
  · rw [lowL_len]; omega
  · rw [lowL_len]; omega
  · rw [List.length_append]; omega
  · rw [List.length_append]; omega
set_option maxRecDepth 100000 in
set_option maxHeartbeats 3200000 in
theorem octetPuts_row_walk (W : World) (hT : Tabs W) (b : List Int) (v : Value) (hN : Nums .u8 W v b) (hb : Byt b) (hz : b.length ≤ 140737488351232) (yb : b.length ≤ 1048576) (n : Nat) (hn : n < 18446744073709551616) (i : Int) (hi : -9223372036854775808 ≤ i ∧ i ≤ 9223372036854775807)
    (q : List Int) (vq : Value) (hQ : Nums .u8 W vq q) (hq : Byt q) (hzq : q.length ≤ 140737488351232) (yq : q.length ≤ 1048576) (s : ByteArray) (hs : s.size ≤ 9223372036854775807) (ys : s.size ≤ 1048576) :
    Calls Tryd.prog 6 #[v, .int .u64 n, .int .i64 i, vq, .string s] W fun e w' => e = .returned (.bool true) ∧ Old W w' := by
  have Ha := Lib.hid (awake_any W hT)
  have HN := Lib.hid hN
  have HQ := Lib.hid hQ
  have HT := Lib.hid hT
  obtain ⟨a, cap, rfl, hc1, hc2⟩ := hN.form
  obtain ⟨aq, cq, rfl, hq1, hq2⟩ := hQ.form
  have Hm16 := Lib.hid (lowL_mod16 n)
  have Hm32 := Lib.hid (lowL_mod32 n)
  have Hbl := Lib.hid (bytesOf_len s)
  clear hN hQ hT
  go_enter Tryd.func6, Tryd.ntmps6
  go_wp2_with fail
  refine Ha.out.mono ?_
  rintro e w1 ⟨rfl, o1⟩
  go_wp2_with fail
  refine (twin_any b _ w1 (HN.out.old o1) (by omega)).mono ?_
  rintro e w2 ⟨⟨v2, rfl, hv2⟩, ho2⟩
  have o2 := o1.trans ho2
  go_wp2_with fail
  refine (Sum_any b _ _ hv2.nums hb).mono ?_
  rintro e w3 ⟨rfl, rfl⟩
  go_wp2_with fail
  refine (RSum_any b _ _ (HN.out.old o2) hb).mono ?_
  rintro e w3 ⟨rfl, rfl⟩
  go_wp2_with fail
  refine (May_any s w2 (HT.out.old o2)).mono ?_
  rintro e w4 ⟨rfl, ho4⟩
  have o4 := o2.trans ho4
  go_wp2_with fail
  refine (RMay_any s w4 (by omega)).mono ?_
  rintro e w5 ⟨rfl, ho5⟩
  have o5 := o4.trans ho5
  clear hv2 ho2 ho4 ho5 o4 o2 o1
  generalize (plainAt s.data.toList 0).2 = pl at *
  go_wp2_with (first
    | (at_make; refine wpList_make_cap (w0 := W) (k := .u8) rfl _ _ 22 rfl 5 Tryd.underlying22 infoByte (b.length + 100) rfl rfl (by omega) (by omega) o5 ?_; intro w6 hown6 ho6 hs6)
    | (at_builtin; refine wpList_append_room (w0 := W) (k := .u8) rfl _ _ 22 rfl 5 Tryd.underlying22 infoByte w5.heap.size (b.length + 100) rfl _ hown6 o5.size b _ rfl (HN.out.old (o5.trans ho6)) (by omega) (by omega) (o5.trans ho6) ?_; intro w7 hown7 o7))
  have hB0 : (b ++ (List.replicate (b.length + 100) (0 : Int)).drop b.length) = b ++ List.replicate 100 0 := by rw [List.drop_replicate, show b.length + 100 - b.length = 100 by omega]
  rw [hB0] at hown7
  have hglt : w5.heap.size < w7.heap.size := (World.ownsRow.lt hown7 _ rfl).2
  have hg0 := o5.size
  generalize w5.heap.size = g at *
  clear hown6 ho6 hs6 o5 hB0
  have hmine : ∀ V, Old w7 V → Nums .u8 V (.slice (some ⟨g, 0, none⟩) b.length (b.length + 100)) b := fun V oV => by
    have := (hown7.nums.old oV).take (m := b.length) (by simp)
    rwa [List.take_left] at this
  have Hmine := Lib.hid hmine
  have Hown7 := Lib.hid hown7
  clear hmine hown7
  refine (PutUint_any b _ n w7 (Hmine.out _ (Old.refl _)) (by omega) hn).mono ?_
  rintro e w8 ⟨⟨u0, rfl, hu0⟩, ho8⟩
  obtain ⟨ad0, cp0, rfl, _, _⟩ := ownsRow_form hu0
  go_wp2_with fail
  refine (PutInt_any b _ i w8 (Hmine.out _ ho8) (by omega) hi.1 hi.2).mono ?_
  rintro e w9 ⟨⟨u1, rfl, hu1⟩, ho9⟩
  obtain ⟨ad1, cp1, rfl, _, _⟩ := ownsRow_form hu1
  have o9 := ho8.trans ho9
  go_wp2_with fail
  have hw16 : ((n : Int) % 65536) = ((n % 65536 : Nat) : Int) := by omega
  first | rw [wrap_u16] | skip
  rw [hw16]
  refine (Put16_any b _ (n % 65536) w9 (Hmine.out _ o9) (by omega) (by omega)).mono ?_
  rw [Hm16.out]
  rintro e w10 ⟨⟨u2, rfl, hu2⟩, ho10⟩
  obtain ⟨ad2, cp2, rfl, _, _⟩ := ownsRow_form hu2
  have o10 := o9.trans ho10
  clear hw16
  go_wp2_with fail
  have hw32 : ((n : Int) % 4294967296) = ((n % 4294967296 : Nat) : Int) := by omega
  first | rw [wrap_u32'] | skip
  rw [hw32]
  refine (Put32_any b _ (n % 4294967296) w10 (Hmine.out _ o10) (by omega) (by omega)).mono ?_
  rw [Hm32.out]
  rintro e w11 ⟨⟨u3, rfl, hu3⟩, ho11⟩
  obtain ⟨ad3, cp3, rfl, _, _⟩ := ownsRow_form hu3
  have o11 := o10.trans ho11
  clear hw32
  go_wp2_with fail
  refine (twin_any q _ w11 (HQ.out.old (o7.trans o11)) (by omega)).mono ?_
  rintro e w12 ⟨⟨uq, rfl, huq⟩, ho12⟩
  have o12 := o11.trans ho12
  go_wp2_with fail
  refine (PutBytes_any b q _ _ w12 (Hmine.out _ o12) huq.nums (by omega)).mono ?_
  rintro e w13 ⟨⟨u4, rfl, hu4⟩, ho13⟩
  obtain ⟨ad4, cp4, rfl, _, _⟩ := ownsRow_form hu4
  have o13 := o12.trans ho13
  go_wp2_with fail
  refine (PutText_any b s _ w13 (Hmine.out _ o13) (by omega)).mono ?_
  rintro e w14 ⟨⟨u5, rfl, hu5⟩, ho14⟩
  obtain ⟨ad5, cp5, rfl, _, _⟩ := ownsRow_form hu5
  have o14 := o13.trans ho14
  go_wp2_with fail
  refine (RUintB_any n _ hn).mono ?_
  rintro e w15 ⟨⟨x0, rfl, hx0⟩, ho15⟩
  obtain ⟨bd0, dp0, rfl, _, _⟩ := ownsRow_form hx0
  have l0 := o7
  have hA : ∀ k, k < 6 → ∃ vk, w15.cell? ⟨w14.heap.size, k, none⟩ = some vk ∧ OwnN .u8 5 w7 w15 vk (b ++ wantL n i q s k) := by
    have p15 := ((Old.refl w14).alloc _).trans ho15
    have p14 := ho14.trans p15
    have p13 := ho13.trans p14
    have p12 := ho12.trans p13
    have p11 := ho11.trans p12
    have p10 := ho10.trans p11
    have p9 := ho9.trans p10
    intro k hk
    match k, hk with
    | 0, _ => exact ⟨_, ho15.cell (by simp [go_sem]; rfl), by have := (hu0.lower (Nat.le_refl w7.heap.size)).old p9; rw [List.length_append] at this; exact this⟩
    | 1, _ => exact ⟨_, ho15.cell (by simp [go_sem]; rfl), by have := (hu1.lower ho8.size).old p10; rw [List.length_append] at this; exact this⟩
    | 2, _ => exact ⟨_, ho15.cell (by simp [go_sem]; rfl), by have := (hu2.lower o9.size).old p11; rw [List.length_append] at this; exact this⟩
    | 3, _ => exact ⟨_, ho15.cell (by simp [go_sem]; rfl), by have := (hu3.lower o10.size).old p12; rw [List.length_append] at this; exact this⟩
    | 4, _ => exact ⟨_, ho15.cell (by simp [go_sem]; rfl), by have := (hu4.lower o12.size).old p14; rw [List.length_append, List.length_append] at this; exact this⟩
    | 5, _ => exact ⟨_, ho15.cell (by simp [go_sem]; rfl), by have := (hu5.lower o13.size).old p15; rw [List.length_append, List.length_append] at this; exact this⟩
  have HA := Lib.hid hA
  have o15 : Old w7 w15 := (o14.alloc _).trans ho15
  have hx0' : OwnN .u8 5 w7 w15 _ (puts n) := hx0.lower (Nat.le_trans o14.size (by simp [go_sem]))
  have hglt14 := o14.size
  clear hA hu0 hu1 hu2 hu3 hu4 hu5 huq ho8 ho9 ho10 ho11 ho12 ho13 ho14 ho15 o9 o10 o11 o12 o13 o14 hx0
  generalize w14.heap.size = g1 at *
  go_wp2_with fail
  refine (RIntB_any i _ hi.1 hi.2).mono ?_
  rintro e w16 ⟨⟨x1, rfl, hx1⟩, ho16⟩
  obtain ⟨bd1, dp1, rfl, _, _⟩ := ownsRow_form hx1
  have o16 := o15.trans ho16
  go_wp2_with fail
  refine (Low_any n 2 _ hn (by omega)).mono ?_
  rintro e w17 ⟨⟨x2, rfl, hx2⟩, ho17⟩
  obtain ⟨bd2, dp2, rfl, _, _⟩ := ownsRow_form hx2
  have o17 := o16.trans ho17
  go_wp2_with fail
  refine (Low_any n 4 _ hn (by omega)).mono ?_
  rintro e w18 ⟨⟨x3, rfl, hx3⟩, ho18⟩
  obtain ⟨bd3, dp3, rfl, _, _⟩ := ownsRow_form hx3
  have o18 := o17.trans ho18
  go_wp2_with fail
  refine (RBytesB_any q _ _ (HQ.out.old (o7.trans o18)) (by omega)).mono ?_
  rintro e w19 ⟨⟨x4, rfl, hx4⟩, ho19⟩
  obtain ⟨bd4, dp4, rfl, _, _⟩ := ownsRow_form hx4
  have o19 := o18.trans ho19
  obtain ⟨vs, w20, hcv, hns, ho20⟩ := convert_text (P := Tryd.prog) w19 s 9 22 5 Tryd.underlying9 Tryd.underlying22 Tryd.underlying5 hs
  have o20 := o19.trans ho20
  have Hns := Lib.hid hns
  clear hns
  go_wp2_with fail
  refine (RBytesB_any (bytesOf s) _ _ Hns.out (by rw [Hbl.out]; omega)).mono ?_
  rw [Hbl.out]
  rintro e w21 ⟨⟨x5, rfl, hx5⟩, ho21⟩
  obtain ⟨bd5, dp5, rfl, _, _⟩ := ownsRow_form hx5
  have o21 := o20.trans ho21
  clear hcv
  go_wp2_with fail
  have hB : ∀ k, k < 6 → ∃ vk, (w21.alloc (.cells #[.slice bd0 (puts n).length dp0, .slice bd1 (puts (zig i)).length dp1, .slice bd2 (lowL n 2).length dp2, .slice bd3 (lowL n 4).length dp3, .slice bd4 ((puts q.length).length + q.length) dp4, .slice bd5 ((puts s.size).length + (bytesOf s).length) dp5] 22)).cell? ⟨w21.heap.size, k, none⟩ = some vk ∧
      OwnN .u8 5 w7 (w21.alloc (.cells #[.slice bd0 (puts n).length dp0, .slice bd1 (puts (zig i)).length dp1, .slice bd2 (lowL n 2).length dp2, .slice bd3 (lowL n 4).length dp3, .slice bd4 ((puts q.length).length + q.length) dp4, .slice bd5 ((puts s.size).length + (bytesOf s).length) dp5] 22)) vk (wantL n i q s k) := by
    have p21 := (Old.refl w21).alloc (.cells #[.slice bd0 (puts n).length dp0, .slice bd1 (puts (zig i)).length dp1, .slice bd2 (lowL n 2).length dp2, .slice bd3 (lowL n 4).length dp3, .slice bd4 ((puts q.length).length + q.length) dp4, .slice bd5 ((puts s.size).length + (bytesOf s).length) dp5] 22)
    have p19 := (ho20.trans ho21).trans p21
    have p18 := ho19.trans p19
    have p17 := ho18.trans p18
    have p16 := ho17.trans p17
    have p15 := ho16.trans p16
    intro k hk
    match k, hk with
    | 0, _ => exact ⟨_, by first | (simp [go_sem]; done) | (simp [go_sem]; rfl), hx0'.old p15⟩
    | 1, _ => exact ⟨_, by first | (simp [go_sem]; done) | (simp [go_sem]; rfl), (hx1.lower o15.size).old p16⟩
    | 2, _ => exact ⟨_, by first | (simp [go_sem]; done) | (simp [go_sem]; rfl), (hx2.lower o16.size).old p17⟩
    | 3, _ => exact ⟨_, by first | (simp [go_sem]; done) | (simp [go_sem]; rfl), (hx3.lower o17.size).old p18⟩
    | 4, _ => exact ⟨_, by first | (simp [go_sem]; done) | (simp [go_sem]; rfl), by have := (hx4.lower o18.size).old p19; rw [List.length_append] at this; exact this⟩
    | 5, _ => exact ⟨_, by first | (simp [go_sem]; done) | (simp [go_sem]; rfl), by have := (hx5.lower o20.size).old p21; rw [List.length_append] at this; exact this⟩
  have hA2 : ∀ k, k < 6 → ∃ vk, (w21.alloc (.cells #[.slice bd0 (puts n).length dp0, .slice bd1 (puts (zig i)).length dp1, .slice bd2 (lowL n 2).length dp2, .slice bd3 (lowL n 4).length dp3, .slice bd4 ((puts q.length).length + q.length) dp4, .slice bd5 ((puts s.size).length + (bytesOf s).length) dp5] 22)).cell? ⟨g1, k, none⟩ = some vk ∧
      OwnN .u8 5 w7 (w21.alloc (.cells #[.slice bd0 (puts n).length dp0, .slice bd1 (puts (zig i)).length dp1, .slice bd2 (lowL n 2).length dp2, .slice bd3 (lowL n 4).length dp3, .slice bd4 ((puts q.length).length + q.length) dp4, .slice bd5 ((puts s.size).length + (bytesOf s).length) dp5] 22)) vk (b ++ wantL n i q s k) := by
    intro k hk
    obtain ⟨vk, h1, h2⟩ := HA.out k hk
    have p15 := (((((ho16.trans ho17).trans ho18).trans ho19).trans (ho20.trans ho21))).alloc (.cells #[.slice bd0 (puts n).length dp0, .slice bd1 (puts (zig i)).length dp1, .slice bd2 (lowL n 2).length dp2, .slice bd3 (lowL n 4).length dp3, .slice bd4 ((puts q.length).length + q.length) dp4, .slice bd5 ((puts s.size).length + (bytesOf s).length) dp5] 22)
    exact ⟨vk, p15.cell h1, h2.old p15⟩
  have hM2 := Hown7.out.old (o21.alloc (.cells #[.slice bd0 (puts n).length dp0, .slice bd1 (puts (zig i)).length dp1, .slice bd2 (lowL n 2).length dp2, .slice bd3 (lowL n 4).length dp3, .slice bd4 ((puts q.length).length + q.length) dp4, .slice bd5 ((puts s.size).length + (bytesOf s).length) dp5] 22))
  have hO2 := o7.trans (o21.alloc (.cells #[.slice bd0 (puts n).length dp0, .slice bd1 (puts (zig i)).length dp1, .slice bd2 (lowL n 2).length dp2, .slice bd3 (lowL n 4).length dp3, .slice bd4 ((puts q.length).length + q.length) dp4, .slice bd5 ((puts s.size).length + (bytesOf s).length) dp5] 22))
  have hg2 := o21.size
  have HB := Lib.hid hB
  have HA2 := Lib.hid hA2
  have HM := Lib.hid hM2
  clear HA hB hA2 hM2 hx0' hx1 hx2 hx3 hx4 hx5 ho16 ho17 ho18 ho19 ho20 ho21 o15 o16 o17 o18 o19 o20 o21 Hown7 Hmine
  generalize w21.alloc (.cells #[.slice bd0 (puts n).length dp0, .slice bd1 (puts (zig i)).length dp1, .slice bd2 (lowL n 2).length dp2, .slice bd3 (lowL n 4).length dp3, .slice bd4 ((puts q.length).length + q.length) dp4, .slice bd5 ((puts s.size).length + (bytesOf s).length) dp5] 22) = wm at *
  generalize w21.heap.size = g2 at *
  go_loopw [79] (fun j wr => ∃ (k : Nat) (B : List Int), k ≤ b.length ∧ j = .int .i64 k ∧ OwnN .u8 5 W wr (.slice (some ⟨g, 0, none⟩) (b.length + 100) (b.length + 100)) B ∧ B.drop b.length = List.replicate 100 0 ∧ OldBut g wm wr) (fun j _ => b.length - (intOf j).toNat)
  case atStart => exact ⟨0, b ++ List.replicate 100 0, Nat.zero_le _, rfl, HM.out, List.drop_left, OldBut.refl _ _⟩
  case round =>
    obtain ⟨k, B, hk, rfl, hown, hdr, hob⟩ := hrel
    have hBl := hown.len
    by_cases hlt : k < b.length
    · have hcl := hown.cell (j := k) (by omega)
      have hfr := hown.frozen k
      have hk1 : (k : Int) < b.length := by omega
      generalize ix B k = X at *
      have Hst := Lib.hid (fun y => hown.stored k y)
      have Hdr := Lib.hid (fun y => show (B.set k y).drop b.length = List.replicate 100 0 from by rw [List.drop_set_of_lt hlt]; exact hdr)
      clear hown hdr hBl
      go_wp2_with fail
      go_roundw
      case rel => exact ⟨k + 1, _, by omega, by go_num, Hst.out _, Hdr.out _, hob.setCell _ _⟩
      case measure => simp [intOf]; omega
    · have hk1 : ¬ (k : Int) < b.length := by omega
      have Hown := Lib.hid hown
      have Hdr := Lib.hid hdr
      have HBl := Lib.hid hBl
      clear hown hdr hBl hlt hk
      go_wp2_with fail
      have Hwl := Lib.hid (fun k => wantL_byt n i hq s k)
      have Hwp := Lib.hid (fun k => wantL_pos n i q s k)
      have Hwz := Lib.hid (fun k => wantL_small (n := n) (i := i) (q := q) (s := s) hn hi yq ys k)
      obtain ⟨i0, hi0, hz0, hz1, hz2⟩ := info_parts infoByte
      have hW2 := hob.base hO2 hg0
      generalize wr = wa at *
      go_loopw [91] (fun j wx => ∃ (k : Nat), k ≤ 6 ∧ j = .int .i64 k ∧ Old wa wx) (fun j _ => 6 - (intOf j).toNat)
      case atStart => exact ⟨0, by omega, rfl, Old.refl _⟩
      case round =>
        obtain ⟨k, hk, rfl, hox⟩ := hrel
        by_cases hlt : k < 6
        · obtain ⟨va, ca1, ca2⟩ := HA2.out k hlt
          obtain ⟨vb, cb1, cb2⟩ := HB.out k hlt
          have hobx : OldBut g wm wr := hob.old hox
          have ka := hobx.cell ca1 (show g1 ≠ g by omega)
          have kb := hobx.cell cb1 (show g2 ≠ g by omega)
          have Na := Lib.hid (Nums.apart ca2 hglt hobx)
          have nb := Nums.apart cb2 hglt hobx
          have hwb := byt_append hb (Hwl.out k)
          have hwp := Hwp.out k
          have hwz := Hwz.out k
          clear ca1 ca2 cb1 cb2
          generalize wantL n i q s k = L at *
          obtain ⟨aa, capa, rfl, _, _⟩ := Na.out.form
          rw [List.length_append] at Na ka
          obtain ⟨ab, capb, bb, ob, rfl, hcb1, hcb2, hab, htb⟩ := nb
          obtain rfl := hab hwp
          have Htb := Lib.hid htb
          have hk6 : (k : Int) < 6 := by omega
          have hWr := hW2.trans hox
          clear hab htb
          go_upto_region 14 with fail
          go_cut [106] (fun x wx => x = .bool false ∧ Old wr wx)
          case first =>
            go_region_held3 (fun w' => w'.cell? ⟨g1, k, none⟩ = some (.slice aa (b.length + L.length) capa) ∧ w'.cell? ⟨g2, k, none⟩ = some (.slice (some ⟨bb, ob, none⟩) L.length capb))
              (first
                | go_keep
                | (go_split_ands; exact ⟨ho3.cell ka, ho3.cell kb⟩)
                | (go_split_ands; exact ⟨HO.cell ka, HO.cell kb⟩))
              (first
                | (go_at_call 11; refine (twin_any b _ _ (HN.out.old hWr.drew) (by omega)).mono ?_; rintro e w3 ⟨⟨v3, rfl, hv3⟩, ho3⟩)
                | (refine step_append_lies _ (by rfl) _ _ _ (by rfl) wr.drew.heap.size 5 i0 _ 1 1 Tryd.underlying22 hi0 hz0 hz1 hz2 rfl (by omega) _ b.length (b.map (Value.int .u8)) (by rfl) hv3
                      ⟨bb, ob, none⟩ L.length capb (L.map (Value.int .u8)) (by rfl) (by simp) (Nums.cells Htb.out ((Old.refl wr).drew.trans ho3)) (nums_one L)
                      hwp (by simp [maxLen]; omega) (by omega) ho3.size w3.heap.size rfl ?_; intro gg cap w4 hown4 hgrow hat hltg; have HO : Old wr w4 := Old.grown ((Old.refl wr).drew.trans ho3) hgrow (fun q hq => (World.ownsRow.lt hv3 q hq).1))
                | (go_at_call 14; refine (same_any (b ++ L) (b ++ L) _ _ w4 (by have h := Na.out.old HO; exact h) (Nums.of_row (by rw [List.length_append]) (by rw [List.map_append]; exact hown4)) hwb hwb).mono ?_; rw [eqL_self]; rintro e w5 ⟨rfl, rfl⟩))
            go_wp2_with fail
            go_meet
            exact ⟨rfl, HO⟩
          case rest =>
            obtain ⟨rfl, hoc⟩ := hcut
            go_wp2_with fail
            go_roundw
            case rel => exact ⟨k + 1, by omega, by go_num, hox.trans hoc⟩
            case measure => simp [intOf]; omega
        · have hk6 : ¬ (k : Int) < 6 := by omega
          have hown := Hown.out.old hox
          have Hz := Lib.hid (show ∀ j, j < 100 → ix B (b.length + j) = 0 from fun j hj => by
            have h1 := congrArg (fun l => l.getD j 0) Hdr.out
            simp only [List.getD, List.getElem?_drop, List.getElem?_replicate, if_pos hj, Option.getD_some] at h1
            exact h1)
          have HBl2 := HBl.out
          have hWr := hW2.trans hox
          have hne : ¬ (b.length + 100 = b.length) := by omega
          clear hk hlt
          go_wp2_with fail
          go_loopw [115] (fun j wx => ∃ (m : Nat), m ≤ 100 ∧ j = .int .i64 m ∧ wr = wx) (fun j _ => 100 - (intOf j).toNat)
          case atStart => exact ⟨0, by omega, rfl, by trivial⟩
          case round =>
            obtain ⟨m, hm, rfl, rfl⟩ := hrel
            by_cases hlt : m < 100
            · have hcl := hown.cell (j := b.length + m) (by omega)
              rw [Hz.out m hlt] at hcl
              have hm1 : (m : Int) < 100 := by omega
              go_wp2_with fail
              go_roundw
              case rel => exact ⟨m + 1, by omega, by go_num, by trivial⟩
              case measure => simp [intOf]; omega
            · have hm1 : ¬ (m : Int) < 100 := by omega
              go_wp2_with fail
              go_ret
              exact ⟨rfl, hWr⟩
end Go.Proofs.YtaclkoipobgmkaaDoor
