/-
  NAMES, AWAKE: the chapter's second example.
-/
import Derived.Test.YtpifkinlaicliaaDoorZAscii
import Derived.Test.YtpifkinlaicliaaDoorZTabN
import Derived.Test.YtpifkinlaicliaaDoorZNear
namespace Go.Proofs.YtpifkinlaicliaaDoor
open Go.RowKit
attribute [local go_sem] Old.refl Old.alloc Old.drew Old.setCell OldW.old

theorem Txts.mk {w : World} {b off cap : Nat} {l : List ByteArray} (h1 : l.length ≤ cap) (h2 : cap ≤ 9223372036854775807) (h : ∀ i, i < l.length → w.cell? ⟨b, off + i, none⟩ = some (.string (l.getD i ⟨#[]⟩))) :
    Txts w (.slice (some ⟨b, off, none⟩) l.length cap) l := ⟨_, cap, b, off, rfl, h1, h2, fun _ => rfl, fun i hi => later (h i hi)⟩
theorem ex3_txts (w : World) : Txts (w.alloc (.cells #[.string sHome, .string sIndex, .string sIndices] 9)) (.slice (some ⟨w.heap.size, 0, none⟩) 3 3) ex3 :=
  Txts.mk (l := ex3) (cap := 3) (by decide) (by decide) (fun i hi => by
    have hi' : i < 3 := hi
    rcases i with _ | _ | _ | i
    · simp [go_sem, ex3]
    · simp [go_sem, ex3]
    · simp [go_sem, ex3]
    · omega)
theorem New_ok (l : List ByteArray) (v : Value) (w : World) (hv : Txts w v l) (hT : Tabs w) (h : (newR l).2 = 0) :
    Calls Tryd.prog 10 #[v] w fun e w' => (∃ c b n u0 u1, e = .returned (.tuple #[.pointer (some ⟨c, 0, none⟩), .int .i64 0, .int .i64 0]) ∧ TabO w w' c b n u0 u1 l) ∧ Old w w' :=
  (New_any l v w hv hT).mono fun e w' ⟨⟨p, he, hp⟩, o⟩ => by
    rcases hp with ⟨_, c, b, n, u0, u1, rfl, ht⟩ | ⟨h', _⟩
    · rw [newR_zero h] at he
      exact ⟨⟨c, b, n, u0, u1, he, ht⟩, o⟩
    · exact absurd h h'
theorem New_no (l : List ByteArray) (v : Value) (w : World) (hv : Txts w v l) (hT : Tabs w) (h : ¬ (newR l).2 = 0) :
    Calls Tryd.prog 10 #[v] w fun e w' => e = .returned (.tuple #[.pointer none, .int .i64 (newR l).1, .int .i64 (newR l).2]) ∧ Old w w' :=
  (New_any l v w hv hT).mono fun e w' ⟨⟨p, he, hp⟩, o⟩ => by
    rcases hp with ⟨h', _⟩ | ⟨_, rfl⟩
    · exact absurd h' h
    · exact ⟨he, o⟩
set_option maxRecDepth 100000 in
set_option maxHeartbeats 3200000 in
theorem awake_any (w : World) (hT : Tabs w) : Calls Tryd.prog 9 #[] w fun e w' => e = .returned (.bool true) ∧ Old w w' := by
  have hnamed : Named ex3 := named_of (by rw [ex3_new])
  have HT := Lib.hid hT
  have H1 := Lib.hid (New_ok ex3 _ _ (ex3_txts w) (hT.old ((Old.refl w).alloc _)) (by rw [ex3_new]))
  have H2 := Lib.hid (fun V (o : Old w V) => Norm_any sMy V (hT.old o))
  simp only [nMy] at H2
  have H3 := Lib.hid (fun p V (o : Old w V) (h : Hdl V p ex3) => Find_any p ex3 sINDEX V (hT.old o) h)
  rw [ex3_find] at H3
  have H4 := Lib.hid (fun p V (o : Old w V) (h : Hdl V p ex3) => Prefix_any p ex3 hnamed sInd (by decide) V (hT.old o) h)
  have H5 := Lib.hid (fun p V (o : Old w V) (h : Hdl V p ex3) => Near_any p ex3 hnamed sHoem V (hT.old o) h)
  have H6 := Lib.hid (fun p V (h : Hdl V p ex3) => Len_any p ex3 V h)
  have Hl2 : ((prefixL ex3 sInd).map Int.ofNat).length = 2 := by rw [List.length_map]; exact ex3_prefix
  have Hl1 : ((nearL ex3 sHoem).map Int.ofNat).length = 1 := by rw [List.length_map]; exact ex3_near
  have H7 := Lib.hid (fun V => Apart_any sKitten sSitting V (by decide) (by decide))
  rw [apart_kitten] at H7
  clear hT
  go_enter Tryd.func9, Tryd.ntmps9
  go_wp2_with (first
    | (go_at_call 10; refine H1.out.mono ?_; rintro e w1 ⟨⟨c, b, n, u0, u1, rfl, ht⟩, o1⟩; have HD := Lib.hid (show Hdl w1 (some ⟨c, 0, none⟩) ex3 from .inr ⟨c, rfl, ht.tab⟩); have O1 := ((Old.refl w).alloc (.cells #[.string sHome, .string sIndex, .string sIndices] 9)).trans o1; clear ht)
    | (go_at_call 19; refine (H2.out _ O1).mono ?_; rintro e w2 ⟨rfl, o2⟩; have HD2 := Lib.hid (HD.out.old o2); have O2 := O1.trans o2)
    | (go_at_call 12; refine (H3.out _ _ O2 HD2.out).mono ?_; rintro e w3 ⟨rfl, o3⟩; have HD3 := Lib.hid (HD2.out.old o3); have O3 := O2.trans o3)
    | (go_at_call 14; refine (H4.out _ _ O3 HD3.out).mono ?_; rintro e w4 ⟨⟨y4, rfl, hy4⟩, o4⟩; obtain ⟨a4, c4, rfl, _, _⟩ := ownsRow_form hy4; have HD4 := Lib.hid (HD3.out.old o4); have O4 := O3.trans o4; clear hy4; rw [Hl2])
    | (go_at_call 13; refine (H5.out _ _ O4 HD4.out).mono ?_; rintro e w5 ⟨⟨y5, rfl, hy5⟩, o5⟩; obtain ⟨a5, c5, rfl, _, _⟩ := ownsRow_form hy5; have HD5 := Lib.hid (HD4.out.old o5); have O5 := O4.trans o5; clear hy5; rw [Hl1])
    | (go_at_call 17; refine (H7.out _).mono ?_; rintro e w6 ⟨rfl, o6⟩; have HD6 := Lib.hid (HD5.out.old o6); have O6 := O5.trans o6)
    | (go_at_call 11; refine (H6.out _ _ HD6.out).mono ?_; rintro e w7 ⟨rfl, o7⟩; have O7 := O6.trans o7))
  go_ret
  exact ⟨rfl, O7⟩
end Go.Proofs.YtpifkinlaicliaaDoor
