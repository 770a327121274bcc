/-
  NAMES, AWAKE: the chapter's second example.
-/
import Derived.Test.YtpifkinlaicliaaGreatDoorZAscii
import Derived.Test.YtpifkinlaicliaaGreatDoorZTabN
import Derived.Test.YtpifkinlaicliaaGreatDoorZNear
import Derived.Test.YtpifkinlaicliaaGreatDoorZRCollect
import Derived.Test.YtpifkinlaicliaaGreatDoorZQuiet
namespace Go.Proofs.YtpifkinlaicliaaGreatDoor
open Go.RowKit
attribute [local go_sem] Old.refl Old.alloc Old.drew Old.setCell OldW.old

theorem Txts.mk {w : World} {b off cap : Nat} {l : List ByteArray} (h1 : l.length ≤ cap) (h2 : cap ≤ 9223372036854775807) (h : ∀ i, i < l.length → w.cell? ⟨b, off + i, none⟩ = some (.string (l.getD i ⟨#[]⟩))) :
    Txts w (.slice (some ⟨b, off, none⟩) l.length cap) l := ⟨_, cap, b, off, rfl, h1, h2, fun _ => rfl, fun i hi => later (h i hi)⟩
theorem ex3_txts (w : World) : Txts (w.alloc (.cells #[.string sHome, .string sIndex, .string sIndices] 9)) (.slice (some ⟨w.heap.size, 0, none⟩) 3 3) ex3 :=
  Txts.mk (l := ex3) (cap := 3) (by decide) (by decide) (fun i hi => by
    have hi' : i < 3 := hi
    rcases i with _ | _ | _ | i
    · simp [go_sem, ex3]
    · simp [go_sem, ex3]
    · simp [go_sem, ex3]
    · omega)
theorem New_ok (l : List ByteArray) (v : Value) (w : World) (hv : Txts w v l) (hT : Tabs w) (h : (newR l).2 = 0) :
    Calls Tryz.prog 6 #[v] w fun e w' => (∃ c b n u0 u1, e = .returned (.tuple #[.pointer (some ⟨c, 0, none⟩), .int .i64 0, .int .i64 0]) ∧ TabO w w' c b n u0 u1 l) ∧ Old w w' :=
  (New_any l v w hv hT).mono fun e w' ⟨⟨p, he, hp⟩, o⟩ => by
    rcases hp with ⟨_, c, b, n, u0, u1, rfl, ht⟩ | ⟨h', _⟩
    · rw [newR_zero h] at he
      exact ⟨⟨c, b, n, u0, u1, he, ht⟩, o⟩
    · exact absurd h h'
theorem New_no (l : List ByteArray) (v : Value) (w : World) (hv : Txts w v l) (hT : Tabs w) (h : ¬ (newR l).2 = 0) :
    Calls Tryz.prog 6 #[v] w fun e w' => e = .returned (.tuple #[.pointer none, .int .i64 (newR l).1, .int .i64 (newR l).2]) ∧ Old w w' :=
  (New_any l v w hv hT).mono fun e w' ⟨⟨p, he, hp⟩, o⟩ => by
    rcases hp with ⟨h', _⟩ | ⟨_, rfl⟩
    · exact absurd h' h
    · exact ⟨he, o⟩
set_option maxRecDepth 100000 in
set_option maxHeartbeats 3200000 in
theorem awake_any (w : World) (hT : Tabs w) : Calls Tryz.prog 5 #[] w fun e w' => e = .returned (.bool true) ∧ Old w w' := by
  have hnamed : Named ex3 := named_of (by rw [ex3_new])
  have HT := Lib.hid hT
  have H1 := Lib.hid (New_ok ex3 _ _ (ex3_txts w) (hT.old ((Old.refl w).alloc _)) (by rw [ex3_new]))
  have H2 := Lib.hid (fun V (o : Old w V) => Norm_any sMy V (hT.old o))
  simp only [nMy] at H2
  have H3 := Lib.hid (fun p V (o : Old w V) (h : Hdl V p ex3) => Find_any p ex3 sINDEX V (hT.old o) h)
  rw [ex3_find] at H3
  have H4 := Lib.hid (fun p V (o : Old w V) (h : Hdl V p ex3) => Prefix_any p ex3 hnamed sInd (by decide) V (hT.old o) h)
  have H5 := Lib.hid (fun p V (o : Old w V) (h : Hdl V p ex3) => Near_any p ex3 hnamed sHoem V (hT.old o) h)
  have H6 := Lib.hid (fun p V (h : Hdl V p ex3) => Len_any p ex3 V h)
  have Hl2 : ((prefixL ex3 sInd).map Int.ofNat).length = 2 := by rw [List.length_map]; exact ex3_prefix
  have Hl1 : ((nearL ex3 sHoem).map Int.ofNat).length = 1 := by rw [List.length_map]; exact ex3_near
  have H7 := Lib.hid (fun V => Apart_any sKitten sSitting V (by decide) (by decide))
  rw [apart_kitten] at H7
  clear hT
  go_enter Tryz.func5, Tryz.ntmps5
  go_wp2_with (first
    | (go_at_call 6; refine H1.out.mono ?_; rintro e w1 ⟨⟨c, b, n, u0, u1, rfl, ht⟩, o1⟩; have HD := Lib.hid (show Hdl w1 (some ⟨c, 0, none⟩) ex3 from .inr ⟨c, rfl, ht.tab⟩); have O1 := ((Old.refl w).alloc (.cells #[.string sHome, .string sIndex, .string sIndices] 9)).trans o1; clear ht)
    | (go_at_call 20; refine (H2.out _ O1).mono ?_; rintro e w2 ⟨rfl, o2⟩; have HD2 := Lib.hid (HD.out.old o2); have O2 := O1.trans o2)
    | (go_at_call 13; refine (H3.out _ _ O2 HD2.out).mono ?_; rintro e w3 ⟨rfl, o3⟩; have HD3 := Lib.hid (HD2.out.old o3); have O3 := O2.trans o3)
    | (go_at_call 15; refine (H4.out _ _ O3 HD3.out).mono ?_; rintro e w4 ⟨⟨y4, rfl, hy4⟩, o4⟩; obtain ⟨a4, c4, rfl, _, _⟩ := ownsRow_form hy4; have HD4 := Lib.hid (HD3.out.old o4); have O4 := O3.trans o4; clear hy4; rw [Hl2])
    | (go_at_call 17; refine (H5.out _ _ O4 HD4.out).mono ?_; rintro e w5 ⟨⟨y5, rfl, hy5⟩, o5⟩; obtain ⟨a5, c5, rfl, _, _⟩ := ownsRow_form hy5; have HD5 := Lib.hid (HD4.out.old o5); have O5 := O4.trans o5; clear hy5; rw [Hl1])
    | (go_at_call 27; refine (H7.out _).mono ?_; rintro e w6 ⟨rfl, o6⟩; have HD6 := Lib.hid (HD5.out.old o6); have O6 := O5.trans o6)
    | (go_at_call 9; refine (H6.out _ _ HD6.out).mono ?_; rintro e w7 ⟨rfl, o7⟩; have O7 := O6.trans o7))
  go_ret
  exact ⟨rfl, O7⟩
end Go.Proofs.YtpifkinlaicliaaGreatDoor
/-
  NamesNorms: any text as a name; any sources' directory, or the first fault: the walk.
-/




namespace Go.Proofs.YtpifkinlaicliaaGreatDoor
open Go.RowKit Go.Maps
attribute [local go_sem] Old.refl Old.alloc Old.drew Old.setCell OldW.old

theorem RetE.split {w w' : World} {S : List (List Tq)} {e : Ending} (h : RetE w w' S e) : ∃ u er, e = .returned (.tuple #[u, er]) ∧
    ((∃ f, ColD S (.error f) ∧ u = .slice none 0 0 ∧ IsErr w' er f.code f.src f.line f.col f.word) ∨ (∃ l, ColD S (.ok l) ∧ er = .nilIface ∧ Recs dnE w' u l)) := by
  rcases h with ⟨f, v, h1, rfl, h2⟩ | ⟨l, u, h1, rfl, h2⟩
  · exact ⟨_, _, rfl, .inl ⟨f, h1, rfl, h2⟩⟩
  · exact ⟨_, _, rfl, .inr ⟨l, h1, rfl, h2.recs⟩⟩
theorem RetF.split {w w' : World} {S : List (List Tq)} {e : Ending} (h : RetF w w' S e) : ∃ u g, e = .returned (.tuple #[u, .agg (fltC g).toArray]) ∧
    ((ColD S (.error g) ∧ u = .slice none 0 0) ∨ (∃ l, ColD S (.ok l) ∧ g = zeroF ∧ Recs dnE w' u l)) := by
  rcases h with ⟨f, h1, rfl⟩ | ⟨l, u, h1, rfl, h2⟩
  · exact ⟨_, _, rfl, .inl ⟨h1, rfl⟩⟩
  · exact ⟨_, _, rfl, .inr ⟨l, h1, rfl, h2.recs⟩⟩
theorem told_lit {w : World} {v : Value} {f : Flt} (h : IsErr w v f.code f.src f.line f.col f.word) :
    Calls Tryz.prog 25 #[v] w fun e w' => e = .returned (.agg #[.int .i64 f.code, .int .i64 f.src, .int .i64 f.line, .int .i64 f.col, .string f.word, .slice none 0 0]) ∧ Old w w' := Told_any h
theorem told_lit0 (w : World) :
    Calls Tryz.prog 25 #[.nilIface] w fun e w' => e = .returned (.agg #[.int .i64 0, .int .i64 0, .int .i64 0, .int .i64 0, .string ⟨#[]⟩, .slice none 0 0]) ∧ Old w w' := Told_nil w
theorem same_lit (f : Flt) (w : World) :
    Calls Tryz.prog 24 #[.agg #[.int .i64 f.code, .int .i64 f.src, .int .i64 f.line, .int .i64 f.col, .string f.word, .slice none 0 0], .agg #[.int .i64 f.code, .int .i64 f.src, .int .i64 f.line, .int .i64 f.col, .string f.word, .slice none 0 0]] w fun e w' => e = .returned (.bool true) ∧ Old w w' := RSameF_any f w
theorem same_lit0 (w : World) :
    Calls Tryz.prog 24 #[.agg #[.int .i64 0, .int .i64 0, .int .i64 0, .int .i64 0, .string ⟨#[]⟩, .slice none 0 0], .agg #[.int .i64 0, .int .i64 0, .int .i64 0, .int .i64 0, .string ⟨#[]⟩, .slice none 0 0]] w fun e w' => e = .returned (.bool true) ∧ Old w w' := RSameF_any ⟨0, 0, 0, 0, ⟨#[]⟩⟩ w
set_option maxRecDepth 100000 in
set_option maxHeartbeats 3200000 in
theorem namesNorms_row_walk (W : World) (hT : Tabs W) (s : ByteArray) (_hs : s.size ≤ 9223372036854775807) (S : List (List Tq)) (v : Value) (hv : Sqs W v S) (hS : ∀ T ∈ S, T.length ≤ 140737488355328) :
    Calls Tryz.prog 4 #[.string s, v] W fun e w' => e = .returned (.bool true) ∧ Old W w' := by
  have Ha := Lib.hid (awake_any W hT)
  have HN := Lib.hid (fun V (o : Old W V) => Norm_any s V (hT.old o))
  have HR := Lib.hid (fun V => RNorm_any s V)
  obtain ⟨a, cap, rfl, hc1, hc2⟩ := Seqs.form hv
  have HC := Lib.hid (fun V (o : Old W V) => CollectE_any _ S V (hv.old o) (hT.old o) hS)
  have HD := Lib.hid (fun V (o : Old W V) => RCollect_any _ S V (hv.old o) hS)
  have hss : ((normR s).1.toList == (normR s).1.toList) = true := by simp
  clear hT hv hS
  generalize normR s = q at *
  obtain ⟨m1, m2⟩ := q
  dsimp only at *
  go_enter Tryz.func4, Tryz.ntmps4
  go_upto_region 9 with (first
    | (go_at_call 5; refine Ha.out.mono ?_; rintro e w1 ⟨rfl, o1⟩)
    | (go_at_call 20; refine (HN.out _ o1).mono ?_; rintro e w2 ⟨rfl, o2⟩)
    | (go_at_call 21; refine (HR.out _).mono ?_; rintro e w3 ⟨rfl, o3⟩; have O3 := (o1.trans o2).trans o3)
    | (go_at_call 22; refine (HC.out _ O3).mono ?_; rintro e w4 ⟨hE0, o4⟩; obtain ⟨u, er, rfl, hE⟩ := hE0.split; clear hE0)
    | (go_at_call 23; refine (HD.out _ (O3.trans o4)).mono ?_; rintro e w5 ⟨hF0, o5⟩; obtain ⟨u2, g, rfl, hF⟩ := hF0.split; clear hF0; simp only [fltC]))
  have O5 := (O3.trans o4).trans o5
  have oz : Old w5 (w5.alloc (.cells #[.int .i64 g.code, .int .i64 g.src, .int .i64 g.line, .int .i64 g.col, .string g.word, .slice none 0 0] 54)) := (Old.refl _).alloc _
  have k0 := later (show (w5.alloc (.cells #[.int .i64 g.code, .int .i64 g.src, .int .i64 g.line, .int .i64 g.col, .string g.word, .slice none 0 0] 54)).cell? ⟨w5.heap.size, 0, none⟩ = some (.int .i64 g.code) by simp [go_sem])
  have k1 := later (show (w5.alloc (.cells #[.int .i64 g.code, .int .i64 g.src, .int .i64 g.line, .int .i64 g.col, .string g.word, .slice none 0 0] 54)).cell? ⟨w5.heap.size, 1, none⟩ = some (.int .i64 g.src) by simp [go_sem])
  have k2 := later (show (w5.alloc (.cells #[.int .i64 g.code, .int .i64 g.src, .int .i64 g.line, .int .i64 g.col, .string g.word, .slice none 0 0] 54)).cell? ⟨w5.heap.size, 2, none⟩ = some (.int .i64 g.line) by simp [go_sem])
  have k3 := later (show (w5.alloc (.cells #[.int .i64 g.code, .int .i64 g.src, .int .i64 g.line, .int .i64 g.col, .string g.word, .slice none 0 0] 54)).cell? ⟨w5.heap.size, 3, none⟩ = some (.int .i64 g.col) by simp [go_sem])
  have k4 := later (show (w5.alloc (.cells #[.int .i64 g.code, .int .i64 g.src, .int .i64 g.line, .int .i64 g.col, .string g.word, .slice none 0 0] 54)).cell? ⟨w5.heap.size, 4, none⟩ = some (.string g.word) by simp [go_sem])
  have k5 := later (show (w5.alloc (.cells #[.int .i64 g.code, .int .i64 g.src, .int .i64 g.line, .int .i64 g.col, .string g.word, .slice none 0 0] 54)).cell? ⟨w5.heap.size, 5, none⟩ = some (.slice none 0 0) by simp [go_sem])
  generalize w5.alloc (.cells #[.int .i64 g.code, .int .i64 g.src, .int .i64 g.line, .int .i64 g.col, .string g.word, .slice none 0 0] 54) = w6 at *
  have O6 := O5.trans oz
  have o56 := o5.trans oz
  rcases hE with ⟨f, hcf, rfl, hE⟩ | ⟨l, hcl, rfl, hru⟩
  · rcases hF with ⟨hcg, rfl⟩ | ⟨l, hcl, _, _⟩
    · have hfg : f = g := by have h := hcf.unique hcg; injection h
      subst hfg
      have hcode := hcf.code
      have hcb : (f.code == 0) = false := by rw [beq_eq_false_iff_ne]; exact hcode
      have HT := Lib.hid (fun V (o : Old w6 V) => told_lit (hE.old (o56.trans o)))
      have HS := Lib.hid (fun V => same_lit f V)
      have HL := Lib.hid (fun V => Same7_any (.slice none 0 0) (.slice none 0 0) [] V (Recs.nil _ _) (Recs.nil _ _))
      obtain ⟨gg, rfl, _⟩ := hE
      clear hcode hcf hcg HC HD HN HR Ha
      refine wp_region_old (Old.refl _) (by kernel_rfl) (by kernel_rfl) ?_
      repeat (go_big_quiet_step (first | with_reducible exact Calls.in_old (HT.out _ (OldW.old _)) | with_reducible exact Calls.in_old (HS.out _) | with_reducible exact Calls.in_old (HL.out _)))
      refine wpQuiet_nil ?_
      rintro ⟨wq, hq⟩
      dsimp only
      go_wp2_with fail
      go_ret
      exact ⟨rfl, O6.trans hq⟩
    · have h := hcf.unique hcl; cases h
  · rcases hF with ⟨hcg, rfl⟩ | ⟨l', hcl', rfl, hru'⟩
    · have h := hcl.unique hcg; cases h
    · have hll : l = l' := by have h := hcl.unique hcl'; injection h
      subst hll
      have HT := Lib.hid (fun V => told_lit0 V)
      have HS := Lib.hid (fun V => same_lit0 V)
      have HL := Lib.hid (fun V (o : Old w6 V) => Same7_any u u2 l V ((hru.old o56).old o) ((hru'.old oz).old o))
      simp only [zeroF] at k0 k1 k2 k3 k4 k5
      clear hcl hcl' hru hru' HC HD HN HR Ha
      refine wp_region_old (Old.refl _) (by kernel_rfl) (by kernel_rfl) ?_
      repeat (go_big_quiet_step (first | with_reducible exact Calls.in_old (HT.out _) | with_reducible exact Calls.in_old (HS.out _) | with_reducible exact Calls.in_old (HL.out _ (OldW.old _))))
      refine wpQuiet_nil ?_
      rintro ⟨wq, hq⟩
      dsimp only
      go_wp2_with fail
      go_ret
      exact ⟨rfl, O6.trans hq⟩
end Go.Proofs.YtpifkinlaicliaaGreatDoor
