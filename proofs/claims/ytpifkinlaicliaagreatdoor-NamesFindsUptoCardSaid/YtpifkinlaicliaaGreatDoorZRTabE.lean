/-
  THE DOCUMENT's TABLE OF NAMES: Prefix.
-/
import Derived.Test.YtpifkinlaicliaaGreatDoorZApartR
import Derived.Test.YtpifkinlaicliaaGreatDoorZPrefix
import Derived.Lib.MinMax
namespace Go.Proofs.YtpifkinlaicliaaGreatDoor
open Go.RowKit
attribute [local go_sem] Old.refl Old.alloc Old.drew Old.setCell OldW.old

theorem begins_eq (s p : ByteArray) : begins s p = decide (p.size ≤ s.size ∧ s.extract 0 p.size = p) := by
  unfold begins
  rw [← Lib.hasPrefix_of_take, Bool.eq_iff_iff, Bool.and_eq_true, decide_eq_true_iff, decide_eq_true_iff, beq_iff_eq]
  have e1 : s.data.toList.length = s.size := Array.length_toList
  have e2 : p.data.toList.length = p.size := Array.length_toList
  have e3 : (s.extract 0 p.size).data.toList = s.data.toList.take p.size := by
    rw [ByteArray.data_extract, Array.toList_extract, List.extract_eq_take_drop]
    simp
  rw [e1, e2]
  constructor
  · rintro ⟨h1, h2⟩; exact ⟨h1, str_inj (e3.trans h2)⟩
  · rintro ⟨h1, h2⟩; exact ⟨h1, by rw [← e3, h2]⟩
theorem filter_take {p : Nat → Bool} {l : List Nat} {k : Nat} (h : k < l.length) : (l.take (k + 1)).filter p = (l.take k).filter p ++ if p (l.getD k 0) = true then [l.getD k 0] else [] := by
  rw [take_snoc h, List.filter_append]
  generalize l.getD k 0 = x
  congr 1
  by_cases hp : p x = true
  · rw [if_pos hp]; simp [hp]
  · rw [if_neg hp]; simp [hp]
set_option maxRecDepth 100000 in
set_option maxHeartbeats 3200000 in
theorem RPrefix_any (v : Value) (l : List ByteArray) (s : ByteArray) (w : World) (hv : RTabV w v l) (hl : l.length ≤ 1048576) (hs : ∀ i, i < l.length → (nmAt l i).size ≤ 4194304) (hz : s.size ≤ 4194304) :
    Calls Tryz.prog 16 #[v, .string s] w fun e w' => RetI w w' e (prefixL l s) ∧ Old w w' := by
  obtain ⟨u0, u1, rfl, h0, h1⟩ := hv
  have HP := Lib.hid (fun V => RPlain_any s V (by omega))
  have HF := Lib.hid (fun V => RFold_any s V hz)
  obtain ⟨a0, cap0, rfl, hc1, hc2⟩ := h0.form
  obtain ⟨a1, cap1, rfl, hc3, hc4⟩ := h1.form
  have hlm : (l.map nrm).length = l.length := List.length_map ..
  rw [hlm] at hc3
  have HS := Lib.hid (fun V (o : Old w V) => RSorted_any (.agg #[.slice a0 l.length cap0, .slice a1 (l.map nrm).length cap1]) l V ⟨_, _, rfl, h0.old o, h1.old o⟩ hl hs)
  have H1 := Lib.hid h1
  have ob : Old w (w.alloc (.cells #[.slice a0 l.length cap0, .slice a1 (l.map nrm).length cap1] 29)) := (Old.refl w).alloc _
  have k0 := later (show (w.alloc (.cells #[.slice a0 l.length cap0, .slice a1 (l.map nrm).length cap1] 29)).cell? ⟨w.heap.size, 0, none⟩ = some (.slice a0 l.length cap0) by simp [go_sem])
  have k1 := later (show (w.alloc (.cells #[.slice a0 l.length cap0, .slice a1 (l.map nrm).length cap1] 29)).cell? ⟨w.heap.size, 1, none⟩ = some (.slice a1 (l.map nrm).length cap1) by simp [go_sem])
  clear h0 h1 hs
  rw [hlm] at k0 k1 ob HS
  cases hp : (plainAt s.data.toList 0).2 with
  | false =>
    have Hr : Hid (prefixL l s = []) := Lib.hid (if_pos hp)
    rw [hp] at HP
    clear hp
    go_enter Tryz.func16, Tryz.ntmps16
    rw [hlm]
    go_wp2_with (go_at_call 36; refine (HP.out _).mono ?_; rintro e w1 ⟨rfl, o1⟩)
    go_ret
    exact ⟨⟨_, rfl, by rw [Hr.out]; exact OwnI.nil _ _ _⟩, ob.trans o1⟩
  | true =>
    have Hr : Hid (prefixL l s = (sortedL l).filter fun i => begins (nrm (nmAt l i)) (foldS s)) := Lib.hid (if_neg (by rw [hp]; decide))
    have Hsl := Lib.hid (fun i (h : i ∈ sortedL l) => sortedL_lt h)
    have hsn := sortedL_length l
    rw [hp] at HP
    clear hp
    generalize foldS s = f at *
    generalize sortedL l = sl at *
    generalize (plainAt s.data.toList 0).1 = q0 at *
    have hl3 : (sl.map Int.ofNat).length = l.length := by rw [List.length_map, hsn]
    go_enter Tryz.func16, Tryz.ntmps16
    rw [hlm]
    go_wp2_with (first
      | (go_at_call 36; refine (HP.out _).mono ?_; rintro e w1 ⟨rfl, o1⟩; have k0a := fun V (o : Old w1 V) => k0 V (o1.trans o); have k1a := fun V (o : Old w1 V) => k1 V (o1.trans o))
      | (go_at_call 37; refine (HF.out _).mono ?_; rintro e w2 ⟨rfl, o2⟩; have k0b := fun V (o : Old w2 V) => k0a V (o2.trans o); have k1b := fun V (o : Old w2 V) => k1a V (o2.trans o); have ow2 := (ob.trans o1).trans o2)
      | (go_at_call 12; refine (HS.out _ ow2).mono ?_; rintro e w3 ⟨⟨y3, rfl, hy3⟩, o3⟩; obtain ⟨a3, c3, rfl, he1, he2⟩ := ownsRow_form hy3; rw [hl3] at hy3 he1 ⊢))
    have HI := Lib.hid hy3.ints
    have ow3 := ow2.trans o3
    have k1c := fun V (o : Old w3 V) => k1b V (o3.trans o)
    clear hy3 k0 k0a k0b k1 k1a k1b HS HP HF
    obtain ⟨G, hG⟩ : ∃ G : Nat → List Int, ∀ k, G k = ((sl.take k).filter fun i => begins (nrm (nmAt l i)) f).map Int.ofNat := ⟨_, fun _ => rfl⟩
    have HG := Lib.hid hG
    have Hg0 : Hid (G 0 = []) := Lib.hid (by rw [hG]; rfl)
    clear hG
    go_loopw [8, 23] (fun sv kv wr => ∃ k : Nat, kv = .int .i64 k ∧ k ≤ l.length ∧ OwnI 3 w3 wr sv (G k) ∧ Old w3 wr) (fun _ kv _ => l.length - (intOf kv).toNat)
    case atStart => exact ⟨0, rfl, Nat.zero_le _, by rw [Hg0.out]; exact OwnI.nil _ _ _, Old.refl _⟩
    case round =>
      obtain ⟨k, rfl, hk, hown, ho⟩ := hrel
      obtain ⟨a2, c2, rfl, hd1, hd2⟩ := ownsRow_form hown
      by_cases hlt : k < l.length
      · have hi1 : (k : Int) < l.length := by omega
        obtain ⟨_, _, b7, off7, e7, _, _, ha7, ht7⟩ := HI.out
        obtain ⟨rfl, hx7, rfl⟩ := Value.slice.inj e7
        obtain rfl := ha7 (by rw [hl3]; omega)
        have c7 := ht7 k (by rw [hl3]; exact hlt) _ ho
        rw [show ix (sl.map Int.ofNat) k = (sl.getD k 0 : Nat) from by simp [ix, List.getD, show k < sl.length from by omega]] at c7
        have Hft := Lib.hid (filter_take (p := fun i => begins (nrm (nmAt l i)) f) (l := sl) (k := k) (by omega))
        have hx := Hsl.out (sl.getD k 0) (by simp only [List.getD, List.getElem?_eq_getElem (show k < sl.length by omega), Option.getD_some]; exact List.getElem_mem _)
        have hfl : (G k).length ≤ 1048576 := by
          rw [HG.out, List.length_map]
          have := List.length_filter_le (fun i => begins (nrm (nmAt l i)) f) (sl.take k)
          rw [List.length_take] at this
          omega
        generalize sl.getD k 0 = x at *
        have hxi : (x : Int) < l.length := by omega
        obtain ⟨b1, off1, capx, ex, _, _, hN⟩ := H1.out.at' (i := x) (by rw [hlm]; exact hx)
        obtain ⟨rfl, hxx, rfl⟩ := Value.slice.inj ex
        have kN := hN _ (ow3.trans ho)
        rw [nrm_at hx] at kN
        have k1d := k1c _ ho
        have HB := Lib.hid (fun V => RBegins_any (nrm (nmAt l x)) f V)
        rw [← begins_eq] at HB
        clear ht7 ha7 e7 ex hN hx7 hxx
        cases hb : begins (nrm (nmAt l x)) f with
        | true =>
          have hft := Hft.out
          rw [if_pos hb] at hft
          have Hf2 : Hid (G (k + 1) = G k ++ [(x : Int)]) := Lib.hid (by rw [HG.out, HG.out, hft, List.map_append]; rfl)
          rw [hb] at HB
          clear hb Hft hft
          generalize nrm (nmAt l x) = nx at *
          have how := OwnI.alloc hown (.cells #[.int .i64 (x : Int)] 3)
          have hos := ho.size
          go_wp2_with (first
            | (go_at_call 38; refine (HB.out _).mono ?_; rintro e w4 ⟨rfl, rfl⟩)
            | (at_builtin; refine wpList_append_int1 (w0 := w3) rfl _ _ 36 rfl 3 Tryz.underlying36 infoInt _ _ rfl how wr.heap.size x rfl (by simp [go_sem]) (by omega) (by simp; omega) ?_; intro v5 w5 hown5 hg5))
          have ho5 : Old w3 w5 := (ho.alloc _).grown hg5 (fun k e => (World.ownsRow.lt how k e).1)
          go_roundw
          case rel => exact ⟨k + 1, by go_num, by omega, by rw [Hf2.out]; exact hown5, ho5⟩
          case measure => simp [intOf]; omega
        | false =>
          have hft := Hft.out
          rw [if_neg (by rw [hb]; decide), List.append_nil] at hft
          have Hf2 : Hid (G (k + 1) = G k) := Lib.hid (by rw [HG.out, HG.out, hft])
          rw [hb] at HB
          clear hb Hft hft
          generalize nrm (nmAt l x) = nx at *
          go_wp2_with (go_at_call 38; refine (HB.out _).mono ?_; rintro e w4 ⟨rfl, rfl⟩)
          go_roundw
          case rel => exact ⟨k + 1, by go_num, by omega, by rw [Hf2.out]; exact hown, ho⟩
          case measure => simp [intOf]; omega
      · obtain rfl : k = l.length := by omega
        have hi1 : ¬ (l.length : Int) < l.length := by omega
        have ht : sl.take l.length = sl := List.take_of_length_le (by omega)
        have Hgl : Hid (G l.length = (sl.filter fun i => begins (nrm (nmAt l i)) f).map Int.ofNat) := Lib.hid (by rw [HG.out, ht])
        go_wp2_with fail
        go_ret
        exact ⟨⟨_, rfl, by rw [Hr.out, ← Hgl.out]; exact hown.lower ow3.size⟩, ow3.trans ho⟩
end Go.Proofs.YtpifkinlaicliaaGreatDoor
/-
  THE DOCUMENT's TABLE OF NAMES: Near.
-/


namespace Go.Proofs.YtpifkinlaicliaaGreatDoor
open Go.RowKit
attribute [local go_sem] Old.refl Old.alloc Old.drew Old.setCell OldW.old
attribute [local go_sem high] Lib.run_min_ints

theorem least_up (d : Nat → Nat) (k : Nat) : leastF d (List.range (k + 1)) = min (leastF d (List.range k)) (d k) := by rw [List.range_succ, leastF_snoc]
theorem nearL_filter {l : List ByteArray} {s : ByteArray} (h : (normR s).2 = 0) (d : Nat → Nat) (hd : ∀ i, d i = apartS (nrm s) (nrm (nmAt l i))) :
    nearL l s = (sortedL l).filter fun i => decide (leastF d (List.range l.length) < 4) && decide (d i = leastF d (List.range l.length)) := by
  have e : (fun i => apartS (nrm s) (nrm (nmAt l i))) = d := funext fun i => (hd i).symm
  unfold nearL
  have hp : leastF d (sortedL l) = leastF d (List.range l.length) := leastF_perm (sortTo_perm l.length)
  rw [if_pos h, e, nearF_eq, hp]
set_option maxRecDepth 100000 in
set_option maxHeartbeats 3200000 in
theorem RNear_any (v : Value) (l : List ByteArray) (s : ByteArray) (w : World) (hv : RTabV w v l) (hl : l.length ≤ 1048576) (hs : ∀ i, i < l.length → (nmAt l i).size ≤ 4194304) :
    Calls Tryz.prog 18 #[v, .string s] w fun e w' => RetI w w' e (nearL l s) ∧ Old w w' := by
  obtain ⟨u0, u1, rfl, h0, h1⟩ := hv
  have HN := Lib.hid (fun V => RNorm_any s V)
  obtain ⟨a0, cap0, rfl, hc1, hc2⟩ := h0.form
  obtain ⟨a1, cap1, rfl, hc3, hc4⟩ := h1.form
  have hlm : (l.map nrm).length = l.length := List.length_map ..
  rw [hlm] at hc3
  have HS := Lib.hid (fun V (o : Old w V) => RSorted_any (.agg #[.slice a0 l.length cap0, .slice a1 (l.map nrm).length cap1]) l V ⟨_, _, rfl, h0.old o, h1.old o⟩ hl hs)
  have H1 := Lib.hid h1
  have ob : Old w (w.alloc (.cells #[.slice a0 l.length cap0, .slice a1 (l.map nrm).length cap1] 29)) := (Old.refl w).alloc _
  have k0 := later (show (w.alloc (.cells #[.slice a0 l.length cap0, .slice a1 (l.map nrm).length cap1] 29)).cell? ⟨w.heap.size, 0, none⟩ = some (.slice a0 l.length cap0) by simp [go_sem])
  have k1 := later (show (w.alloc (.cells #[.slice a0 l.length cap0, .slice a1 (l.map nrm).length cap1] 29)).cell? ⟨w.heap.size, 1, none⟩ = some (.slice a1 (l.map nrm).length cap1) by simp [go_sem])
  clear h0 h1 hs
  rw [hlm] at k0 k1 ob HS
  by_cases he : (normR s).2 = 0
  · obtain ⟨d, hd⟩ : ∃ d : Nat → Nat, ∀ i, d i = apartS (nrm s) (nrm (nmAt l i)) := ⟨_, fun _ => rfl⟩
    have Hr := Lib.hid (nearL_filter (l := l) he d hd)
    have hns : (nrm s).size ≤ 320 := normR_size s
    have HA := Lib.hid (fun i V => by
      have h := RApart_any (nrm (nmAt l i)) (nrm s) V (by have : (nrm (nmAt l i)).size ≤ 320 := normR_size _; omega) (by omega)
      rw [levL_comm, show levL (runesI (nrm s)) (runesI (nrm (nmAt l i))) = d i from (hd i).symm] at h
      exact h)
    have Hd6 := Lib.hid (fun i => (by
      have h1 := (levL_le (runesI (nrm s)) (runesI (nrm (nmAt l i)))).1
      have h2 := runesI_len (nrm s)
      have h3 := runesI_len (nrm (nmAt l i))
      have h4 : (nrm (nmAt l i)).size ≤ 320 := normR_size _
      rw [hd i]
      unfold apartS
      omega : d i ≤ 320))
    have Hsl := Lib.hid (fun i (h : i ∈ sortedL l) => sortedL_lt h)
    have hsn := sortedL_length l
    rw [he, show (normR s).1 = nrm s from rfl] at HN
    clear he hd hns
    generalize nrm s = q at *
    generalize sortedL l = sl at *
    have hl3 : (sl.map Int.ofNat).length = l.length := by rw [List.length_map, hsn]
    go_enter Tryz.func18, Tryz.ntmps18
    rw [hlm]
    go_wp2_with (go_at_call 21; refine (HN.out _).mono ?_; rintro e w1 ⟨rfl, o1⟩; have k0a := fun V (o : Old w1 V) => k0 V (o1.trans o); have k1a := fun V (o : Old w1 V) => k1 V (o1.trans o); have ow1 := ob.trans o1)
    clear k0 k1 HN
    go_loopw [7, 22] (fun mv kv wr => ∃ k : Nat, kv = .int .i64 k ∧ k ≤ l.length ∧ mv = .int .i64 (leastF d (List.range k) : Nat) ∧ Old w1 wr) (fun _ kv _ => l.length - (intOf kv).toNat)
    case atStart => exact ⟨0, rfl, Nat.zero_le _, rfl, Old.refl _⟩
    case round =>
      obtain ⟨k, rfl, hk, rfl, ho⟩ := hrel
      have hm4 : leastF d (List.range k) ≤ 4 := (leastF_le _).1
      have k1b := k1a _ ho
      by_cases hlt : k < l.length
      · have hi1 : (k : Int) < l.length := by omega
        obtain ⟨b1, off1, capx, ex, _, _, hN⟩ := H1.out.at' (i := k) (by rw [hlm]; exact hlt)
        obtain ⟨rfl, hxx, rfl⟩ := Value.slice.inj ex
        have kN := hN _ (ow1.trans ho)
        rw [nrm_at hlt] at kN
        have HA1 := Lib.hid (HA.out k)
        have Hup := Lib.hid (least_up d k)
        have hdk := Hd6.out k
        clear ex hN hxx
        generalize nrm (nmAt l k) = nx at *
        generalize leastF d (List.range k) = m at *
        generalize d k = dk at *
        go_wp2_with (go_at_call 39; refine (HA1.out _).mono ?_; rintro e w2 ⟨rfl, o2⟩)
        go_roundw
        case rel => exact ⟨k + 1, by go_num, by omega, by rw [Hup.out]; exact congrArg (Value.int .i64) (by omega), ho.trans o2⟩
        case measure => simp [intOf]; omega
      · obtain rfl : k = l.length := by omega
        have hi1 : ¬ (l.length : Int) < l.length := by omega
        have ow2 := ow1.trans ho
        have k0b := fun V (o : Old wr V) => k0a V (ho.trans o)
        have k1b' := fun V (o : Old wr V) => k1a V (ho.trans o)
        generalize leastF d (List.range l.length) = m at *
        clear k0a k1a k1b hk
        go_wp2_with (go_at_call 12; refine (HS.out _ ow2).mono ?_; rintro e w3 ⟨⟨y3, rfl, hy3⟩, o3⟩; obtain ⟨a3, c3, rfl, he1, he2⟩ := ownsRow_form hy3; rw [hl3] at hy3 he1 ⊢)
        have HI := Lib.hid hy3.ints
        have ow3 := ow2.trans o3
        have k1c := fun V (o : Old w3 V) => k1b' V (o3.trans o)
        clear hy3 k0b k1b' HS
        obtain ⟨G, hG⟩ : ∃ G : Nat → List Int, ∀ k, G k = ((sl.take k).filter fun i => decide (m < 4) && decide (d i = m)).map Int.ofNat := ⟨_, fun _ => rfl⟩
        have HG := Lib.hid hG
        have Hg0 : Hid (G 0 = []) := Lib.hid (by rw [hG]; rfl)
        clear hG
        go_loopw [9, 38] (fun sv kv wx => ∃ k : Nat, kv = .int .i64 k ∧ k ≤ l.length ∧ OwnI 3 w3 wx sv (G k) ∧ Old w3 wx) (fun _ kv _ => l.length - (intOf kv).toNat)
        case atStart => exact ⟨0, rfl, Nat.zero_le _, by rw [Hg0.out]; exact OwnI.nil _ _ _, Old.refl _⟩
        case round =>
          obtain ⟨k, rfl, hk, hown, ho3⟩ := hrel
          obtain ⟨a2, c2, rfl, hd1, hd2⟩ := ownsRow_form hown
          by_cases hlt : k < l.length
          · have hi1 : (k : Int) < l.length := by omega
            obtain ⟨_, _, b7, off7, e7, _, _, ha7, ht7⟩ := HI.out
            obtain ⟨rfl, hx7, rfl⟩ := Value.slice.inj e7
            obtain rfl := ha7 (by rw [hl3]; omega)
            have c7 := ht7 k (by rw [hl3]; exact hlt) _ ho3
            rw [show ix (sl.map Int.ofNat) k = (sl.getD k 0 : Nat) from by simp [ix, List.getD, show k < sl.length from by omega]] at c7
            have Hft := Lib.hid (filter_take (p := fun i => decide (m < 4) && decide (d i = m)) (l := sl) (k := k) (by omega))
            have hx := Hsl.out (sl.getD k 0) (by simp only [List.getD, List.getElem?_eq_getElem (show k < sl.length by omega), Option.getD_some]; exact List.getElem_mem _)
            have hfl : (G k).length ≤ 1048576 := by
              rw [HG.out, List.length_map]
              have := List.length_filter_le (fun i => decide (m < 4) && decide (d i = m)) (sl.take k)
              rw [List.length_take] at this
              omega
            generalize sl.getD k 0 = x at *
            have hxi : (x : Int) < l.length := by omega
            obtain ⟨b1, off1, capx, ex, _, _, hN⟩ := H1.out.at' (i := x) (by rw [hlm]; exact hx)
            obtain ⟨rfl, hxx, rfl⟩ := Value.slice.inj ex
            have kN := hN _ (ow3.trans ho3)
            rw [nrm_at hx] at kN
            have k1d := k1c _ ho3
            have HA1 := Lib.hid (HA.out x)
            have hdx := Hd6.out x
            clear ht7 ha7 e7 ex hN hx7 hxx
            by_cases hm : m < 4
            · have hmi : (m : Int) < 4 := by omega
              by_cases hdm : d x = m
              · have hft := Hft.out
                rw [if_pos (by rw [decide_eq_true hm, decide_eq_true hdm]; rfl)] at hft
                have Hf2 : Hid (G (k + 1) = G k ++ [(x : Int)]) := Lib.hid (by rw [HG.out, HG.out, hft, List.map_append]; rfl)
                rw [hdm] at HA1
                clear Hft hft hdm
                generalize nrm (nmAt l x) = nx at *
                go_wp2_with (first
                  | (go_at_call 39; refine (HA1.out _).mono ?_; rintro e w4 ⟨rfl, o4⟩; have how := OwnI.alloc (hown.old o4) (.cells #[.int .i64 (x : Int)] 3); have hos := (ho3.trans o4).size)
                  | (at_builtin; refine wpList_append_int1 (w0 := w3) rfl _ _ 36 rfl 3 Tryz.underlying36 infoInt _ _ rfl how w4.heap.size x rfl (by simp [go_sem]) (by omega) (by simp; omega) ?_; intro v5 w5 hown5 hg5))
                have ho5 : Old w3 w5 := ((ho3.trans o4).alloc _).grown hg5 (fun k e => (World.ownsRow.lt how k e).1)
                go_roundw
                case rel => exact ⟨k + 1, by go_num, by omega, by rw [Hf2.out]; exact hown5, ho5⟩
                case measure => simp [intOf]; omega
              · have hft := Hft.out
                have hdi : ((d x : Int) == (m : Int)) = false := by
                  have : ¬ (d x : Int) = m := by omega
                  simpa using this
                rw [if_neg (by rw [decide_eq_false hdm, Bool.and_false]; decide), List.append_nil] at hft
                have Hf2 : Hid (G (k + 1) = G k) := Lib.hid (by rw [HG.out, HG.out, hft])
                clear Hft hft hdm
                generalize nrm (nmAt l x) = nx at *
                generalize d x = dx at *
                go_wp2_with (go_at_call 39; refine (HA1.out _).mono ?_; rintro e w4 ⟨rfl, o4⟩; have hown4 := hown.old o4; have ho4 := ho3.trans o4)
                go_roundw
                case rel => exact ⟨k + 1, by go_num, by omega, by rw [Hf2.out]; exact hown4, ho4⟩
                case measure => simp [intOf]; omega
            · have hmi : ¬ (m : Int) < 4 := by omega
              have hft := Hft.out
              rw [if_neg (by rw [decide_eq_false hm, Bool.false_and]; decide), List.append_nil] at hft
              have Hf2 : Hid (G (k + 1) = G k) := Lib.hid (by rw [HG.out, HG.out, hft])
              clear Hft hft
              generalize nrm (nmAt l x) = nx at *
              go_wp2_with fail
              go_roundw
              case rel => exact ⟨k + 1, by go_num, by omega, by rw [Hf2.out]; exact hown, ho3⟩
              case measure => simp [intOf]; omega
          · obtain rfl : k = l.length := by omega
            have hi1 : ¬ (l.length : Int) < l.length := by omega
            have ht : sl.take l.length = sl := List.take_of_length_le (by omega)
            have Hgl : Hid (G l.length = (sl.filter fun i => decide (m < 4) && decide (d i = m)).map Int.ofNat) := Lib.hid (by rw [HG.out, ht])
            go_wp2_with fail
            go_ret
            exact ⟨⟨_, rfl, by rw [Hr.out, ← Hgl.out]; exact hown.lower ow3.size⟩, ow3.trans ho3⟩
  · have Hr : Hid (nearL l s = []) := Lib.hid (if_neg he)
    have hne : ((normR s).2 != 0) = true := by simpa using he
    clear he
    generalize (normR s).1 = q at *
    generalize (normR s).2 = e0 at *
    go_enter Tryz.func18, Tryz.ntmps18
    rw [hlm]
    go_wp2_with (go_at_call 21; refine (HN.out _).mono ?_; rintro e w1 ⟨rfl, o1⟩)
    go_ret
    exact ⟨⟨_, rfl, by rw [Hr.out]; exact OwnI.nil _ _ _⟩, ob.trans o1⟩
end Go.Proofs.YtpifkinlaicliaaGreatDoor
