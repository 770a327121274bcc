/-
  A TEXT OF CHARACTERS: characters written one behind the other; unlike lists make unlike texts.
-/
import Derived.Test.YtpifkinlaicliaaDoorZTextCompare3
import Derived.Test.YtpifkinlaicliaaDoorZNorm
import Derived.Lib.QuoteLoop
import Derived.Laws.Cover4
import Derived.Test.YtpifkinlaicliaaDoorZAwake7
import Derived.Test.YtpifkinlaicliaaDoorZApartR
import Derived.Test.YtpifkinlaicliaaDoorZQuiet
import Derived.Lib.MinMax
namespace Go.Proofs.YtpifkinlaicliaaDoor
open Go.RowKit

def ValR (r : Int) : Prop := 0 ≤ r ∧ r ≤ 1114111 ∧ ¬ (55296 ≤ r ∧ r ≤ 57343)
theorem chR_val (l : List UInt8) (p : Nat) : ValR (chR l p) := by
  unfold chR
  rw [Lib.decodeL_N]
  have h := Lib.decodeN_valid (l.drop p).length ((l.drop p).getD 0 0).toNat ((l.drop p).getD 1 0).toNat ((l.drop p).getD 2 0).toNat ((l.drop p).getD 3 0).toNat (UInt8.toNat_lt _)
  unfold ValR
  omega
theorem runesI_val (s : ByteArray) : ∀ r ∈ runesI s, ValR r := by
  intro r hr
  obtain ⟨c, hc, rfl⟩ := List.mem_map.1 hr
  obtain ⟨k, hk, hk2⟩ := List.mem_iff_getElem.1 hc
  have := (charsAt_get k 0 _ (List.getElem?_eq_getElem hk)).2.2.1
  rw [← hk2, this]
  exact chR_val _ _
/-- the first character, and what stands behind it, are told by the bytes -/
theorem encZ_inj {r s : Int} (hr : ValR r) (hs : ValR s) {A B : List Int} (h : Lib.encodeRuneZ r ++ A = Lib.encodeRuneZ s ++ B) : r = s ∧ A = B := by
  unfold ValR at hr hs
  have cls : ∀ r : Int, (0 ≤ r ∧ r ≤ 1114111 ∧ ¬ (55296 ≤ r ∧ r ≤ 57343)) → (r ≤ 127 ∧ Lib.encodeRuneZ r = [r]) ∨ (128 ≤ r ∧ r ≤ 2047 ∧ Lib.encodeRuneZ r = [192 + r / 64, 128 + r % 64]) ∨
      (2048 ≤ r ∧ r ≤ 65535 ∧ Lib.encodeRuneZ r = [224 + r / 4096, 128 + r / 64 % 64, 128 + r % 64]) ∨ (65536 ≤ r ∧ Lib.encodeRuneZ r = [240 + r / 262144, 128 + r / 4096 % 64, 128 + r / 64 % 64, 128 + r % 64]) := by
    intro r h
    rcases Int.lt_or_le 127 r with c | c
    · rcases Int.lt_or_le 2047 r with c2 | c2
      · rcases Int.lt_or_le 65535 r with c3 | c3
        · exact .inr (.inr (.inr ⟨by omega, Lib.encodeRuneZ_four (by omega) (by omega)⟩))
        · exact .inr (.inr (.inl ⟨by omega, by omega, Lib.encodeRuneZ_three (by omega)⟩))
      · exact .inr (.inl ⟨by omega, by omega, Lib.encodeRuneZ_two (by omega) (by omega)⟩)
    · exact .inl ⟨by omega, Lib.encodeRuneZ_one (by omega) (by omega)⟩
  rcases cls r hr with ⟨a1, e1⟩ | ⟨a1, a2, e1⟩ | ⟨a1, a2, e1⟩ | ⟨a1, e1⟩ <;> rcases cls s hs with ⟨b1, e2⟩ | ⟨b1, b2, e2⟩ | ⟨b1, b2, e2⟩ | ⟨b1, e2⟩ <;>
    rw [e1, e2] at h <;> simp only [List.cons_append, List.nil_append, List.cons.injEq] at h
  · exact ⟨h.1, h.2⟩
  · exfalso; omega
  · exfalso; omega
  · exfalso; omega
  · exfalso; omega
  · exact ⟨by omega, h.2.2⟩
  · exfalso; omega
  · exfalso; omega
  · exfalso; omega
  · exfalso; omega
  · exact ⟨by omega, h.2.2.2⟩
  · exfalso; omega
  · exfalso; omega
  · exfalso; omega
  · exfalso; omega
  · exact ⟨by omega, h.2.2.2.2⟩
theorem encZ_list : ∀ {x y : List Int}, (∀ r ∈ x, ValR r) → (∀ r ∈ y, ValR r) → x.flatMap Lib.encodeRuneZ = y.flatMap Lib.encodeRuneZ → x = y
  | [], [], _, _, _ => rfl
  | [], s :: y, _, _, h => by
    have h1 := (Lib.encodeRuneZ_length s).1
    have h2 := congrArg List.length h
    rw [List.flatMap_cons, List.length_append, List.flatMap_nil, List.length_nil] at h2
    omega
  | r :: x, [], _, _, h => by
    have h1 := (Lib.encodeRuneZ_length r).1
    have h2 := congrArg List.length h
    rw [List.flatMap_cons, List.length_append, List.flatMap_nil, List.length_nil] at h2
    omega
  | r :: x, s :: y, hx, hy, h => by
    rw [List.flatMap_cons, List.flatMap_cons] at h
    obtain ⟨rfl, h2⟩ := encZ_inj (hx r (by simp)) (hy s (by simp)) h
    rw [encZ_list (fun q hq => hx q (by simp [hq])) (fun q hq => hy q (by simp [hq])) h2]
theorem runesBytes_data (x : List Int) : (runesBytes x).data.toList = (x.flatMap Lib.encodeRuneZ).map fun z => z.toNat.toUInt8 := by
  have h : ∀ (x : List Int) (s : ByteArray), (x.foldl (fun r n => r ++ Utf8.encode n) s).data.toList = s.data.toList ++ (x.flatMap Lib.encodeRuneZ).map fun z => z.toNat.toUInt8 := by
    intro x
    induction x with
    | nil => intro s; simp
    | cons r x ih =>
      intro s
      rw [List.foldl_cons, ih, encode_rune, List.flatMap_cons, List.map_append]
      simp [Lib.encodeRune]
  have := h x ByteArray.empty
  simpa [runesBytes] using this
theorem map_byte_inj : ∀ {A B : List Int}, (∀ z ∈ A, 0 ≤ z ∧ z < 256) → (∀ z ∈ B, 0 ≤ z ∧ z < 256) → A.map (fun z => z.toNat.toUInt8) = B.map (fun z => z.toNat.toUInt8) → A = B
  | [], [], _, _, _ => rfl
  | [], b :: B, _, _, h => by simp at h
  | a :: A, [], _, _, h => by simp at h
  | a :: A, b :: B, ha, hb, h => by
    rw [List.map_cons, List.map_cons, List.cons.injEq] at h
    have h1 := ha a (by simp)
    have h2 := hb b (by simp)
    have h3 := congrArg UInt8.toNat h.1
    simp at h3
    rw [map_byte_inj (fun z hz => ha z (by simp [hz])) (fun z hz => hb z (by simp [hz])) h.2]
    congr 1
    omega
theorem runesBytes_inj {x y : List Int} (hx : ∀ r ∈ x, ValR r) (hy : ∀ r ∈ y, ValR r) (h : runesBytes x = runesBytes y) : x = y := by
  have h1 := congrArg (fun s : ByteArray => s.data.toList) h
  rw [runesBytes_data, runesBytes_data] at h1
  refine encZ_list hx hy (map_byte_inj ?_ ?_ h1)
  · intro z hz
    obtain ⟨r, _, h⟩ := List.mem_flatMap.1 hz
    exact Lib.encodeRuneZ_byte r z h
  · intro z hz
    obtain ⟨r, _, h⟩ := List.mem_flatMap.1 hz
    exact Lib.encodeRuneZ_byte r z h
/-- string(x), x a slice of characters that lies at a block -/
theorem conv_text {w : World} {g cap : Nat} {x : List Int} (h : Nums .i32 w (.slice (some ⟨g, 0, none⟩) x.length cap) x) :
    (convert 37 9 (.slice (some ⟨g, 0, none⟩) x.length cap)).run Tryd.prog w = .ok (.string (runesBytes x)) w := by
  obtain ⟨_, _, b, off, e, _, _, ha, ht⟩ := h
  obtain ⟨rfl, _, rfl⟩ := Value.slice.inj e
  have := run_convert_runes (P := Tryd.prog) w 37 9 21 ⟨g, 0, none⟩ x.length cap x (Nat.le_refl _) Tryd.underlying37 Tryd.underlying21 Tryd.underlying9 (fun j hj => by
    have hb : g = b ∧ 0 = off := by simpa using ha (by omega)
    obtain ⟨rfl, rfl⟩ := hb
    rw [Addr.add_lit]
    exact ht j hj w (Old.refl w))
  rw [List.take_length] at this
  exact this
end Go.Proofs.YtpifkinlaicliaaDoor
/-
  NamesApart: any three texts: how far they are apart is a distance, and what the document says: the walk.
-/





namespace Go.Proofs.YtpifkinlaicliaaDoor
open Go.RowKit
attribute [local go_sem] Old.refl Old.alloc Old.drew Old.setCell OldW.old

set_option maxRecDepth 100000 in
set_option maxHeartbeats 3200000 in
theorem namesApart_row_walk (W : World) (hT : Tabs W) (a : ByteArray) (ha : a.size ≤ 9223372036854775807) (b : ByteArray) (hb : b.size ≤ 9223372036854775807) (c : ByteArray) (hc : c.size ≤ 9223372036854775807) :
    Calls Tryd.prog 5 #[.string a, .string b, .string c] W fun e w' => e = .returned (.bool true) ∧ Old W w' := by
  have Ha := Lib.hid (awake_any W hT)
  clear hT
  by_cases h1 : 300 < a.size
  · have h1' : (300 : Int) < a.size := by omega
    go_enter Tryd.func5, Tryd.ntmps5
    go_wp2_with (go_at_call 9; refine Ha.out.mono ?_; rintro e w1 ⟨rfl, o1⟩)
    go_ret
    exact ⟨rfl, o1⟩
  by_cases h2 : 300 < b.size
  · have h1' : ¬ (300 : Int) < a.size := by omega
    have h2' : (300 : Int) < b.size := by omega
    go_enter Tryd.func5, Tryd.ntmps5
    go_wp2_with (go_at_call 9; refine Ha.out.mono ?_; rintro e w1 ⟨rfl, o1⟩)
    go_ret
    exact ⟨rfl, o1⟩
  by_cases h3 : 300 < c.size
  · have h1' : ¬ (300 : Int) < a.size := by omega
    have h2' : ¬ (300 : Int) < b.size := by omega
    have h3' : (300 : Int) < c.size := by omega
    go_enter Tryd.func5, Tryd.ntmps5
    go_wp2_with (go_at_call 9; refine Ha.out.mono ?_; rintro e w1 ⟨rfl, o1⟩)
    go_ret
    exact ⟨rfl, o1⟩
  have h1' : ¬ (300 : Int) < a.size := by omega
  have h2' : ¬ (300 : Int) < b.size := by omega
  have h3' : ¬ (300 : Int) < c.size := by omega
  have Hab := Lib.hid (fun V => Apart_any a b V (by omega) (by omega))
  have Hbc := Lib.hid (fun V => Apart_any b c V (by omega) (by omega))
  have Hac := Lib.hid (fun V => Apart_any a c V (by omega) (by omega))
  have Hba := Lib.hid (fun V => Apart_any b a V (by omega) (by omega))
  have HR := Lib.hid (fun V => RApart_any a b V (by omega) (by omega))
  have CA := Lib.hid (conv_runes a (by omega))
  have CB := Lib.hid (conv_runes b (by omega))
  have Hva := Lib.hid (runesI_val a)
  have Hvb := Lib.hid (runesI_val b)
  have hla := runesI_len a
  have hlb := runesI_len b
  have hlc := runesI_len c
  generalize runesI a = x at *
  generalize runesI b = y at *
  generalize runesI c = z at *
  have htri := levL_tri x y z
  have hle := levL_le x y
  have hle2 := levL_le y z
  have hle3 := levL_le x z
  rw [levL_comm y x] at Hba
  have hfin : (decide (levL x y = 0) == decide (runesBytes x = runesBytes y)) = true := by
    rw [beq_iff_eq, decide_eq_decide]
    rw [levL_zero]
    exact ⟨fun e => by rw [e], fun e => runesBytes_inj Hva.out Hvb.out e⟩
  have Hfin := Lib.hid hfin
  clear hfin
  generalize levL x y = A at *
  generalize levL y z = B at *
  generalize levL x z = C at *
  have hA : A ≤ 300 := by omega
  have hB : B ≤ 600 := by omega
  have q1 : decide ((A : Int) + B < C) = false := by rw [decide_eq_false_iff_not]; omega
  have q2 : decide (max (x.length : Int) y.length < A) = false := by rw [decide_eq_false_iff_not]; omega
  have q3 : decide ((A : Int) < (x.length : Int) - y.length) = false := by rw [decide_eq_false_iff_not]; omega
  have q4 : decide ((A : Int) < (y.length : Int) - x.length) = false := by rw [decide_eq_false_iff_not]; omega
  have hlx : x.length ≤ 300 := by omega
  have hly : y.length ≤ 300 := by omega
  clear htri hle hle2 hle3
  have hmx : ∀ (w : World) (ts : Array TypeId) (t : TypeId) (k k' : IntKind) (x y : Int), (Builtin.max_ ts t #[.int k x, .int k' y]).run Tryd.prog w = .ok (.int k (max x y)) w := fun w ts t k k' x y => Lib.run_max_ints w ts t k k' x y
  go_enter Tryd.func5, Tryd.ntmps5
  go_upto_region 6 with (first
    | (go_at_call 9; refine Ha.out.mono ?_; rintro e w1 ⟨rfl, o1⟩)
    | (go_at_call 17; with_reducible refine (Hab.out _).mono ?_; rintro e w2 ⟨rfl, o2⟩)
    | (go_at_call 17; with_reducible refine (Hbc.out _).mono ?_; rintro e w3 ⟨rfl, o3⟩)
    | (go_at_call 17; with_reducible refine (Hac.out _).mono ?_; rintro e w4 ⟨rfl, o4⟩))
  obtain ⟨cap1, w5, r1, hv1, o5⟩ := CA.out w4
  obtain ⟨cap2, w6, r2, hv2, o6⟩ := CB.out w5
  go_upto_region 7 with fail
  clear r1 r2
  refine wp_region_mild (Old.refl w6) ?_
  repeat (go_big_quiet_step (first | with_reducible exact Calls.in_old (HR.out _) | with_reducible exact Calls.in_old (Hba.out _)))
  refine wpQuiet_nil ?_
  rintro ⟨wq, hq⟩
  dsimp only
  obtain ⟨cap3, w7, r3, hv3, o7⟩ := CA.out wq
  obtain ⟨cap4, w8, r4, hv4, o8⟩ := CB.out w7
  have t3 := conv_text hv3
  have t4 := conv_text hv4
  have hob : Old W w8 := ((((o1.trans o2).trans o3).trans o4).trans (o5.trans o6)).trans ((hq.trans o7).trans o8)
  have Hob := Lib.hid hob
  clear hob hv3 hv4 hv1 hv2
  generalize runesBytes x = bx at *
  generalize runesBytes y = by' at *
  go_wp2_with fail
  go_ret
  refine ⟨ret_bool (a := ((A : Int) == 0) == (bx.toList == by'.toList)) ?_, Hob.out⟩
  rw [str_beq, show (((A : Int) == 0) : Bool) = decide (A = 0) from by rw [Bool.eq_iff_iff, beq_iff_eq, decide_eq_true_iff]; omega]
  exact Hfin.out
end Go.Proofs.YtpifkinlaicliaaDoor
