/-
  TEXT, THE DOCUMENT's, H: elements.
-/
import Derived.Test.YtohngjkedhpikaaGreatDoorZTextDigits
import Derived.Test.YtohngjkedhpikaaGreatDoorZTextCodesD
namespace Go.Proofs.YtohngjkedhpikaaGreatDoor
open Go.RowKit
attribute [local go_sem] Old.refl Old.alloc Old.drew Old.setCell OldW.old

theorem infoREl : (Tryz.prog.info? 109).map (fun i => (i.zero, i.size, i.bytes)) = some (some (.agg #[.int .i64 0, .int .i32 0, .string ⟨#[]⟩]), 3, 32) := by kernel_rfl
theorem dg_pos {s : ByteArray} {p : Nat} (h : 0 < dgAt s p) : p < s.size ∧ isDg (s.data.toList.getD p 0) = true ∧ dgAt s p = dgAt s (p + 1) + 1 := by
  have h1 : p < s.size := by
    by_cases k : p < s.size
    · exact k
    · rw [dgAt_end k] at h; omega
  have h2 : isDg (s.data.toList.getD p 0) = true := by
    cases k : isDg (s.data.toList.getD p 0)
    · rw [dgAt_off h1 k] at h; omega
    · rfl
  exact ⟨h1, h2, dgAt_on h1 h2⟩
theorem encode_byte {b : UInt8} (h : b.toNat < 128) : Utf8.encode (b.toNat : Int) = strB [b] := by
  rw [encode_rune]
  unfold Lib.encodeRune strB
  rw [Lib.encodeRuneZ_one (by omega) (by omega)]
  simp
set_option maxRecDepth 100000 in
set_option maxHeartbeats 6400000 in
theorem RElements_any (s : ByteArray) (w : World) (hs : s.size ≤ 4194304) :
    Calls Tryz.prog 59 #[.string s] w fun e w' => (∃ v, e = .returned v ∧ OwnS elE 109 w w' v (elsS s)) ∧ Old w w' := by
  have Hc := Lib.hid (Chars_any s w (by omega))
  go_enter Tryz.func59, Tryz.ntmps59
  go_wp2_with (go_at_call 49; refine Hc.out.mono ?_; rintro e w1 ⟨⟨v1, rfl, hv1⟩, ho1⟩; obtain ⟨a, cap, b, off, rfl, hcap1, hcap2, ha, ht⟩ := hv1.recs)
  clear Hc hv1
  have Ha := Lib.hid ha
  have Ht := Lib.hid ht
  have hLs := charsAt_len (l := s.data.toList) (s.data.toList.length - 0) 0 rfl
  rw [str_len] at hLs
  clear ha ht
  go_loopw [3, 5] (fun x j wr => ∃ (i p : Nat) (t : List El), i ≤ (charsAt s.data.toList 0).length ∧ p ≤ s.size ∧ t.length ≤ 4 * p ∧ j = .int .i64 i ∧ OwnS elE 109 w1 wr x t ∧ Old w1 wr ∧ (charsAt s.data.toList 0).drop i = charsAt s.data.toList p ∧ elsGo s p t = elsS s) (fun _ j _ => (charsAt s.data.toList 0).length - (intOf j).toNat)
  case atStart => exact ⟨0, 0, [], Nat.zero_le _, Nat.zero_le _, Nat.zero_le _, rfl, OwnS.nil _ _ _ _, Old.refl _, rfl, rfl⟩
  case round =>
    obtain ⟨i, p, t, hi, hp, htp, rfl, hown, ho, hdr, hat⟩ := hrel
    have Hat := Lib.hid hat
    have Hown := Lib.hid hown
    have Hdr := Lib.hid hdr
    clear hat hown hdr
    obtain ⟨ax, cx, rfl, hc1, hc2⟩ := Hown.out.form
    by_cases hlt : i < (charsAt s.data.toList 0).length
    · obtain ⟨hpl, hget, hnext⟩ := chars_step Hdr.out hlt
      have hpl' := hpl
      rw [str_len] at hpl
      have hon := elsGo_on hpl t
      rw [Hat.out] at hon
      have hn1 := chN_pos s.data.toList p
      have hn2 := chN_le hpl'
      rw [str_len] at hn2
      have hr0 := chR_le s.data.toList p
      have hdig := digit_iff hpl'
      obtain rfl := Ha.out (by omega)
      have K := Recs.chr Ht.out hget
      have k0 := fun V (o : Old wr V) => (K V (ho.trans o)).1
      dsimp only at k0
      have hi1 : (i : Int) < (charsAt s.data.toList 0).length := by omega
      clear K hget hpl'
      by_cases hD : 0 < dgAt s p
      · obtain ⟨_, hdg, _⟩ := dg_pos hD
        have hst : elStep s p = ([⟨1, 0, trimN s p (p + dgAt s p)⟩], p + dgAt s p) := if_pos hD
        rw [hst] at hon
        have Hon := Lib.hid hon
        rw [hdg] at hdig
        have HI := Lib.hid (fun V => in_at hdig V)
        have hDs : p + dgAt s p ≤ s.size := by
          have := dgN_le (s.data.toList.drop p)
          rw [List.length_drop, str_len] at this
          unfold dgAt; omega
        clear hon hst hdig hnext hdg
        go_wp2_with (go_at_call 96; refine (HI.out _).mono ?_; rintro e w2 ⟨rfl, rfl⟩)
        generalize wr = wo at *
        clear k0 HI
        go_loopw [5, 6] (fun j d wq => ∃ k m q : Nat, k ≤ dgAt s p ∧ m = i + k ∧ q = p + k ∧ j = .int .i64 m ∧ d = .string (strB (trimL s p q)) ∧ (charsAt s.data.toList 0).drop m = charsAt s.data.toList q ∧ dgAt s q + k = dgAt s p ∧ m ≤ (charsAt s.data.toList 0).length ∧ wq = wo) (fun j _ _ => (charsAt s.data.toList 0).length - (intOf j).toNat)
        case atStart => exact ⟨0, i, p, Nat.zero_le _, rfl, rfl, rfl, by rw [trimL_zero]; rfl, Hdr.out, rfl, hi, rfl⟩
        case round =>
          obtain ⟨k, m, q, hk, hm, hq, rfl, rfl, hdrk, hdk, hik, rfl⟩ := hrel
          by_cases hkD : 0 < dgAt s q
          · obtain ⟨hps, hdgk, hdn⟩ := dg_pos hkD
            have hpsl : q < s.data.toList.length := by rw [str_len]; exact hps
            have hjl : m < (charsAt s.data.toList 0).length := by
              have h := congrArg List.length hdrk
              rw [charsAt_on hpsl, List.length_drop] at h
              simp at h; omega
            obtain ⟨_, hget2, hnext2⟩ := chars_step hdrk hjl
            have hby := digit_iff hpsl
            rw [hdgk] at hby
            have hb128 : (s.data.toList.getD q 0).toNat < 128 := by
              unfold isDg at hdgk
              simp at hdgk
              simp
              omega
            obtain ⟨hcr, hcn⟩ := chR_byte hpsl hb128
            have K2 := Recs.chr Ht.out hget2
            have j0 := fun V (o : Old wr V) => (K2 V (ho.trans o)).1
            dsimp only at j0
            rw [hcn] at hnext2
            have htr := trimL_succ (s := s) (p := p) (q := q) (by omega) hps
            have Hen := Lib.hid (encode_byte hb128)
            have HI := Lib.hid (fun V => in_at hby V)
            rw [hcr] at j0 HI
            have Hnext := Lib.hid hnext2
            have htl : (trimL s p q).length ≤ s.size := by
              unfold trimL Lib.trimLeftB
              have h1 := (List.dropWhile_suffix (fun x : UInt8 => x == 48) (l := (s.extract p q).data.toList)).length_le
              rw [str_len] at h1
              have h2 := extract_size (s := s) (p := p) (i := q)
              omega
            have Hdn := Lib.hid (show dgAt s (q + 1) + (k + 1) = dgAt s p from by omega)
            have Hm := Lib.hid hm
            have Hq := Lib.hid hq
            clear hget2 hnext2 hby hdgk K2 hcr hcn hdrk hdn hdk hm hq hkD
            generalize s.data.toList.getD q 0 = bb at *
            generalize trimL s p q = t0 at *
            have hm1 : (m : Int) < (charsAt s.data.toList 0).length := by omega
            by_cases hz : t0 = [] ∧ bb = 48
            · rw [if_pos hz] at htr
              have hE : (strB t0).toList.isEmpty = true := by rw [hz.1, ByteArray.toList_eq]; rfl
              have hbn : ((bb.toNat : Int) != 48) = false := by rw [hz.2]; rfl
              have Htr : Hid (strB t0 = strB (trimL s p (q + 1))) := by rw [htr, hz.1]; rfl
              clear htr hz
              go_wp2_with (go_at_call 96; refine (HI.out _).mono ?_; rintro e w2 ⟨rfl, rfl⟩)
              go_roundw
              case rel => exact ⟨k + 1, m + 1, q + 1, by have := Hdn.out; omega, by have := Hm.out; omega, by have := Hq.out; omega, by go_num, congrArg Value.string Htr.out, Hnext.out, Hdn.out, by omega, by trivial⟩
              case measure => simp [intOf]; omega
            · rw [if_neg hz] at htr
              by_cases ht0 : t0 = []
              · have hE : (strB t0).toList.isEmpty = true := by rw [ht0, ByteArray.toList_eq]; rfl
                have hbn : ((bb.toNat : Int) != 48) = true := by
                  rw [bne_iff_ne]
                  intro e
                  exact hz ⟨ht0, UInt8.toNat_inj.1 (by have : (48 : UInt8).toNat = 48 := rfl; omega)⟩
                clear hz ht0
                obtain ⟨S0, hS0⟩ : ∃ S0, S0 = strB t0 := ⟨_, rfl⟩
                have z0 : S0.size = t0.length := by rw [hS0]; exact strB_size t0
                obtain ⟨X, hX⟩ : ∃ X, X = strB [bb] := ⟨_, rfl⟩
                have z1 : X.size = 1 := by rw [hX]; rfl
                obtain ⟨V, hV⟩ : ∃ V, V = strB (t0 ++ [bb]) := ⟨_, rfl⟩
                have E1 : S0 ++ X = V := by rw [hS0, hX, hV]; exact strB_app _ _
                have Hx : Utf8.encode (bb.toNat : Int) = X := by rw [Hen.out, hX]
                have hcat : ¬ 9223372036854775807 < S0.size + 1 := by omega
                have hcat' : ¬ 9223372036854775807 < S0.size + X.size := by omega
                rw [← hS0] at hE ⊢
                have HV : Hid (V = strB (trimL s p (q + 1))) := hV.trans (by rw [← htr])
                clear hV hX hS0 htr
                go_wp2_with (go_at_call 96; refine (HI.out _).mono ?_; rintro e w2 ⟨rfl, rfl⟩)
                go_roundw
                case rel => exact ⟨k + 1, m + 1, q + 1, by have := Hdn.out; omega, by have := Hm.out; omega, by have := Hq.out; omega, by go_num, congrArg Value.string HV.out, Hnext.out, Hdn.out, by omega, by trivial⟩
                case measure => simp [intOf]; omega
              · have hE : (strB t0).toList.isEmpty = false := by
                  rw [ByteArray.toList_eq]
                  show t0.isEmpty = false
                  cases t0
                  · exact absurd rfl ht0
                  · rfl
                clear hz ht0
                obtain ⟨S0, hS0⟩ : ∃ S0, S0 = strB t0 := ⟨_, rfl⟩
                have z0 : S0.size = t0.length := by rw [hS0]; exact strB_size t0
                obtain ⟨X, hX⟩ : ∃ X, X = strB [bb] := ⟨_, rfl⟩
                have z1 : X.size = 1 := by rw [hX]; rfl
                obtain ⟨V, hV⟩ : ∃ V, V = strB (t0 ++ [bb]) := ⟨_, rfl⟩
                have E1 : S0 ++ X = V := by rw [hS0, hX, hV]; exact strB_app _ _
                have Hx : Utf8.encode (bb.toNat : Int) = X := by rw [Hen.out, hX]
                have hcat : ¬ 9223372036854775807 < S0.size + 1 := by omega
                have hcat' : ¬ 9223372036854775807 < S0.size + X.size := by omega
                rw [← hS0] at hE ⊢
                have HV : Hid (V = strB (trimL s p (q + 1))) := hV.trans (by rw [← htr])
                clear hV hX hS0 htr
                go_wp2_with (go_at_call 96; refine (HI.out _).mono ?_; rintro e w2 ⟨rfl, rfl⟩)
                go_roundw
                case rel => exact ⟨k + 1, m + 1, q + 1, by have := Hdn.out; omega, by have := Hm.out; omega, by have := Hq.out; omega, by go_num, congrArg Value.string HV.out, Hnext.out, Hdn.out, by omega, by trivial⟩
                case measure => simp [intOf]; omega
          · have hkk : k = dgAt s p := by omega
            have hqs : q ≤ s.size := by omega
            have Hon2 : Hid (elsS s = elsGo s q (t ++ [⟨1, 0, trimN s p q⟩])) := by
              have h := Hon.out
              rw [← hkk, ← hq] at h
              exact h
            obtain ⟨T, hT⟩ : ∃ T, T = strB (trimL s p q) := ⟨_, rfl⟩
            have HT : Hid (T = trimN s p q) := hT
            have Hdrk := Lib.hid hdrk
            have hm1 : 0 < m ∧ i < m := by omega
            have hmp : (1 : Int) ≤ m := by omega
            have htl2 : t.length ≤ 4 * p ∧ p ≤ s.size ∧ p < q := by omega
            have Hq := Lib.hid hq
            rw [← hT]
            clear hT
            by_cases hml : m < (charsAt s.data.toList 0).length
            · obtain ⟨hql, hget2, _⟩ := chars_step hdrk hml
              have hnd : isDg (s.data.toList.getD q 0) = false := by
                cases h : isDg (s.data.toList.getD q 0)
                · rfl
                · have := dgAt_on (s := s) (p := q) (by rw [str_len] at hql; exact hql) h
                  omega
              have hby := digit_iff hql
              rw [hnd] at hby
              have HI := Lib.hid (fun V => in_at hby V)
              have K2 := Recs.chr Ht.out hget2
              have j0 := fun V (o : Old wr V) => (K2 V (ho.trans o)).1
              dsimp only at j0
              have hml' : (m : Int) < (charsAt s.data.toList 0).length := by omega
              clear hget2 K2 hby hnd hdrk hdk hm hq hkk
              go_wp2_with (first | (go_at_call 96; refine (HI.out _).mono ?_; rintro e w2 ⟨rfl, rfl⟩) | (at_builtin; refine wpList_append_rec1 (c := elE) (w0 := w1) rfl _ _ 105 rfl 109 Tryz.underlying105 _ infoREl rfl (Nat.zero_lt_succ 2) _ t rfl (Hown.out.alloc _) wr.heap.size (⟨1, 0, T⟩ : El) rfl (fun j u hu => by simp [go_sem]; simpa [elE] using hu) (by omega) (by omega) (by have h1 := ho.size; simp [go_sem]; omega) ?_; intro v' w4 hown4 hgr))
              have ho4 : Old w1 w4 := (ho.alloc _).grown hgr (fun b hb => (World.ownsRow.lt Hown.out b hb).1)
              go_roundw
              case rel => exact ⟨m, q, t ++ [⟨1, 0, T⟩], hik, hqs, by simp; have := Hq.out; omega, by go_num, hown4, ho4, Hdrk.out, by rw [HT.out]; exact Hon2.out.symm⟩
              case measure => simp [intOf]; omega
            · have hml' : decide ((m : Int) < (charsAt s.data.toList 0).length) = false := by simp; omega
              have HI := Lib.hid (fun V => in_any 0 0 0 V)
              clear hdrk hdk hm hq hkk
              go_wp2_with (first | (go_at_call 96; refine (HI.out _).mono ?_; rintro e w2 ⟨rfl, rfl⟩) | (at_builtin; refine wpList_append_rec1 (c := elE) (w0 := w1) rfl _ _ 105 rfl 109 Tryz.underlying105 _ infoREl rfl (Nat.zero_lt_succ 2) _ t rfl (Hown.out.alloc _) wr.heap.size (⟨1, 0, T⟩ : El) rfl (fun j u hu => by simp [go_sem]; simpa [elE] using hu) (by omega) (by omega) (by have h1 := ho.size; simp [go_sem]; omega) ?_; intro v' w4 hown4 hgr))
              have ho4 : Old w1 w4 := (ho.alloc _).grown hgr (fun b hb => (World.ownsRow.lt Hown.out b hb).1)
              go_roundw
              case rel => exact ⟨m, q, t ++ [⟨1, 0, T⟩], hik, hqs, by simp; have := Hq.out; omega, by go_num, hown4, ho4, Hdrk.out, by rw [HT.out]; exact Hon2.out.symm⟩
              case measure => simp [intOf]; omega
      · have hst : elStep s p = (if widC (chR s.data.toList p) = 0 then [] else baseEls (chR s.data.toList p), p + chN s.data.toList p) := if_neg hD
        rw [hst] at hon
        have hnd : isDg (s.data.toList.getD p 0) = false := by
          cases h : isDg (s.data.toList.getD p 0)
          · rfl
          · have := dgAt_on hpl h
            omega
        rw [hnd] at hdig
        have HI := Lib.hid (fun V => in_at hdig V)
        have HW := Lib.hid (fun V => RWidth_any (chR s.data.toList p) V)
        have HB := Lib.hid (fun V => RBase_any (chR s.data.toList p) V (by omega))
        have hsz := baseC_size (chR s.data.toList p)
        have HC := Lib.hid (fun V => Chars_any (baseC (chR s.data.toList p)) V (by omega))
        have hcl := charsAt_len (l := (baseC (chR s.data.toList p)).data.toList) ((baseC (chR s.data.toList p)).data.toList.length - 0) 0 rfl
        rw [str_len] at hcl
        have Hrb := Lib.hid (fun k x => charsAt_get (l := (baseC (chR s.data.toList p)).data.toList) k 0 x)
        have Hbe := Lib.hid (show baseEls (chR s.data.toList p) = (charsAt (baseC (chR s.data.toList p)).data.toList 0).map elC from rfl)
        have Hon := Lib.hid hon
        have Hnext := Lib.hid hnext
        clear hon hst hdig hnd hD hnext
        generalize baseEls (chR s.data.toList p) = B at *
        generalize hcs : charsAt (baseC (chR s.data.toList p)).data.toList 0 = cs at *
        clear hcs Hrb
        generalize baseC (chR s.data.toList p : Int) = bs at *
        generalize chR s.data.toList p = R at *
        generalize chN s.data.toList p = n at *
        generalize widC R = W at *
        by_cases hW : W = 0
        · subst hW
          rw [if_pos rfl, List.append_nil] at Hon
          go_wp2_with (first | (go_at_call 96; refine (HI.out _).mono ?_; rintro e w2 ⟨rfl, rfl⟩) | (go_at_call 104; refine (HW.out _).mono ?_; rintro e w3 ⟨rfl, rfl⟩))
          go_roundw
          case rel => exact ⟨i + 1, p + n, t, by omega, by omega, by omega, by go_num, Hown.out, ho, Hnext.out, Hon.out.symm⟩
          case measure => simp [intOf]; omega
        · rw [if_neg hW] at Hon
          have hW' : ((W : Int) == 0) = false := by rw [beq_eq_false_iff_ne]; omega
          go_wp2_with (first | (go_at_call 96; refine (HI.out _).mono ?_; rintro e w2 ⟨rfl, rfl⟩) | (go_at_call 104; refine (HW.out _).mono ?_; rintro e w3 ⟨rfl, rfl⟩) | (go_at_call 105; refine (HB.out _).mono ?_; rintro e w4 ⟨rfl, rfl⟩) | (go_at_call 49; refine (HC.out _).mono ?_; rintro e w5 ⟨⟨v5, rfl, hv5⟩, ho5⟩; obtain ⟨a5, cap5, rfl, hc51, hc52⟩ := hv5.form))
          have Hv5 := Lib.hid hv5
          have ho5' : Old w1 w5 := ho.trans ho5
          have Hown5 := Lib.hid (Hown.out.old ho5)
          have hob : ∀ g5, a5 = some ⟨g5, 0, none⟩ → (Value.slice ax t.length cx).ownBlock ≠ some g5 := fun g5 e hb => by
            have h1 := (World.ownsRow.lt Hown.out g5 hb).2
            have h2 := (World.ownsRow.lt Hv5.out g5 (by rw [e]; rfl)).1
            omega
          clear hv5 k0
          go_loopw [3, 8] (fun x j wq => ∃ k : Nat, k ≤ cs.length ∧ j = .int .i64 k ∧ OwnS elE 109 w1 wq x (t ++ (cs.take k).map elC) ∧ Old w1 wq ∧ OwnS chE 97 wr wq (.slice a5 cs.length cap5) cs ∧ (∀ g5, a5 = some ⟨g5, 0, none⟩ → x.ownBlock ≠ some g5)) (fun _ j _ => cs.length - (intOf j).toNat)
          case atStart => exact ⟨0, Nat.zero_le _, rfl, by rw [List.take_zero, List.map_nil, List.append_nil]; exact Hown5.out, ho5', Hv5.out, hob⟩
          case round =>
            obtain ⟨k, hk, rfl, hown2, hoq, hv5q, hob2⟩ := hrel
            have Hown2 := Lib.hid hown2
            have Hv5q := Lib.hid hv5q
            clear hown2 hv5q hob
            obtain ⟨ay, cy, rfl, hc61, hc62⟩ := Hown2.out.form
            have hlen : (t ++ (cs.take k).map elC).length = t.length + k := by simp; omega
            rw [hlen] at hc61 hob2 ⊢
            by_cases hkc : k < cs.length
            · obtain ⟨x0, hx⟩ : ∃ x, cs[k]? = some x := ⟨_, List.getElem?_eq_getElem hkc⟩
              obtain ⟨g5, rfl, hg51, hg52⟩ := Hv5q.out.block (by omega)
              have kc : wr.cell? ⟨g5, k * 4, none⟩ = some (.int .i32 x0.r) := Hv5q.out.cell (j := 0) hx rfl
              have Hel := Lib.hid (show (cs.take (k + 1)).map elC = (cs.take k).map elC ++ [elC x0] from take_app_one elC hx)
              have Hk : Hid (elC x0 = ⟨kindC x0.r, x0.r, ⟨#[]⟩⟩) := rfl
              have hk1 : (k : Int) < cs.length := by omega
              clear hx
              generalize x0.r = c at *
              have HIn := Lib.hid (fun V => in_any c 97 122 V)
              go_upto_region 21 with fail
              go_cut [102] from 89 to 102 (fun v wx => v = .bool (decide (kindC c = 2)) ∧ wr = wx)
              case' first =>
                obtain ⟨b1, q1⟩ : ∃ b1, ((c : Int) != 215) = b1 := ⟨_, rfl⟩
                obtain ⟨b2, q2⟩ : ∃ b2, ((c : Int) != 247) = b2 := ⟨_, rfl⟩
                have Q1 := Lib.hid q1
                have Q2 := Lib.hid q2
                cases b1 <;> cases b2
                all_goals go_wp2_with (go_at_call 96; refine (HIn.out _).mono ?_; rintro e w8 ⟨rfl, rfl⟩)
                all_goals
                  go_meet
                  refine ⟨congrArg Value.bool ?_, rfl⟩
                  have Q1' := Q1.out
                  have Q2' := Q2.out
                  (try simp only [inR_iff, bne_iff_ne, ne_eq, bne_eq_false_iff_eq] at *)
                  rw [Bool.eq_iff_iff]
                  simp [kindC]
                  omega
              obtain ⟨rfl, rfl⟩ := hcut
              obtain ⟨bb, hbb⟩ : ∃ bb, decide (kindC c = 2) = bb := ⟨_, rfl⟩
              rw [hbb]
              cases bb with
              | true =>
                have HKv := Lib.hid (of_decide_eq_true hbb)
                clear hbb
                obtain ⟨i0, hi0, hz0, hz1, hz2⟩ := info_parts infoREl
                have hownr : wr.ownsRow w1.heap.size 109 3 (.slice ay (t.length + k) cy) (t.length + k) (elE.all (t ++ (cs.take k).map elC)) := by have h := Hown2.out; unfold OwnS at h; rw [hlen] at h; exact h
                go_wp2_with (at_builtin; refine wpList_append_lies _ rfl _ _ 105 rfl w1.heap.size 109 i0 _ 3 32 Tryz.underlying105 hi0 hz0 hz1 hz2 rfl (by omega) (.slice ay (t.length + k) cy) (t.length + k) (elE.all (t ++ (cs.take k).map elC)) rfl (World.ownsRow.alloc hownr _) ⟨wr.heap.size, 0, none⟩ 1 1 (elE.enc ⟨2, c, ⟨#[]⟩⟩) rfl rfl (World.news_of_block (cs := (elE.enc ⟨2, c, ⟨#[]⟩⟩).toArray) (t := 109) (fr := (0, 0)) (heap_alloc_new wr _)) (elE.one ⟨2, c, ⟨#[]⟩⟩) (by omega) (by simp [maxLen]; omega) (by omega) (by have h1 := hoq.size; simp; omega) (wr.heap.size + 1) (by simp [go_sem]) ?_; intro gg cp w7 hown7 hgr hat hltg)
                have ho7 : Old w1 w7 := (hoq.alloc _).grown hgr (fun b hb => (World.ownsRow.lt hownr b hb).1)
                go_roundw
                case rel => exact ⟨k + 1, by omega, by go_num, by unfold OwnS; rw [Hel.out, Hk.out, HKv.out, ← List.append_assoc, Enc.all_append, Enc.all_one, List.length_append, hlen]; exact hown7, ho7, (Hv5q.out.alloc _).kept hgr (.inr (fun e => hob2 g5 rfl e.symm)), fun g' e e2 => by
                  obtain rfl : g5 = g' := by simpa using e
                  rcases hat with hat | hat
                  · exact hob2 g5 rfl (by rw [hat]; exact e2)
                  · have : gg = g5 := by simpa [Value.ownBlock] using e2
                    omega⟩
                case measure => simp [intOf]; omega
              | false =>
                have hK := of_decide_eq_false hbb
                have HKv := Lib.hid (show kindC c = 0 from by unfold kindC at hK ⊢; split at hK <;> simp_all)
                clear hK hbb
                obtain ⟨i0, hi0, hz0, hz1, hz2⟩ := info_parts infoREl
                have hownr : wr.ownsRow w1.heap.size 109 3 (.slice ay (t.length + k) cy) (t.length + k) (elE.all (t ++ (cs.take k).map elC)) := by have h := Hown2.out; unfold OwnS at h; rw [hlen] at h; exact h
                go_wp2_with (at_builtin; refine wpList_append_lies _ rfl _ _ 105 rfl w1.heap.size 109 i0 _ 3 32 Tryz.underlying105 hi0 hz0 hz1 hz2 rfl (by omega) (.slice ay (t.length + k) cy) (t.length + k) (elE.all (t ++ (cs.take k).map elC)) rfl (World.ownsRow.alloc hownr _) ⟨wr.heap.size, 0, none⟩ 1 1 (elE.enc ⟨0, c, ⟨#[]⟩⟩) rfl rfl (World.news_of_block (cs := (elE.enc ⟨0, c, ⟨#[]⟩⟩).toArray) (t := 109) (fr := (0, 0)) (heap_alloc_new wr _)) (elE.one ⟨0, c, ⟨#[]⟩⟩) (by omega) (by simp [maxLen]; omega) (by omega) (by have h1 := hoq.size; simp; omega) (wr.heap.size + 1) (by simp [go_sem]) ?_; intro gg cp w7 hown7 hgr hat hltg)
                have ho7 : Old w1 w7 := (hoq.alloc _).grown hgr (fun b hb => (World.ownsRow.lt hownr b hb).1)
                go_roundw
                case rel => exact ⟨k + 1, by omega, by go_num, by unfold OwnS; rw [Hel.out, Hk.out, HKv.out, ← List.append_assoc, Enc.all_append, Enc.all_one, List.length_append, hlen]; exact hown7, ho7, (Hv5q.out.alloc _).kept hgr (.inr (fun e => hob2 g5 rfl e.symm)), fun g' e e2 => by
                  obtain rfl : g5 = g' := by simpa using e
                  rcases hat with hat | hat
                  · exact hob2 g5 rfl (by rw [hat]; exact e2)
                  · have : gg = g5 := by simpa [Value.ownBlock] using e2
                    omega⟩
                case measure => simp [intOf]; omega
            · obtain rfl : k = cs.length := by omega
              have Hf := Lib.hid (show (cs.take cs.length).map elC = B from by rw [List.take_length]; exact Hbe.out.symm)
              have Hown8 := Lib.hid Hown2.out
              go_wp2_with fail
              go_roundw
              case rel => exact ⟨i + 1, p + n, _, by omega, by omega, by rw [hlen]; omega, by go_num, by have h := Hown8.out; rw [hlen] at h; exact h, hoq, Hnext.out, by rw [Hf.out]; exact Hon.out.symm⟩
              case measure => simp [intOf]; omega
    · have hend := chars_done Hdr.out hlt
      have Hend := Lib.hid (elsGo_end (s := s) (p := p) (by rw [str_len] at hend; exact hend) t)
      have hi1 : ¬ (i : Int) < (charsAt s.data.toList 0).length := by omega
      generalize (charsAt s.data.toList 0).length = L at *
      go_wp2_with fail
      go_ret
      exact ⟨⟨_, rfl, by rw [← Hat.out, Hend.out]; exact Hown.out.lower ho1.size⟩, ho1.trans ho⟩
end Go.Proofs.YtohngjkedhpikaaGreatDoor
