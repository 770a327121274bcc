/-
  KEYWORD, OA: alike: whether what is one is written alike.
-/
import Derived.Test.YtohngjkedhpikaaGreatDoorZKwOl
import Derived.Test.YtohngjkedhpikaaGreatDoorZKwW
import Derived.Test.YtohngjkedhpikaaGreatDoorZKwM
import Derived.Test.YtohngjkedhpikaaGreatDoorZTextDigits
import Derived.Test.YtohngjkedhpikaaGreatDoorZKwS
import Derived.BigRegion
namespace Go.Proofs.YtohngjkedhpikaaGreatDoor
open Go.RowKit Go.Maps
attribute [local go_sem] Old.refl Old.alloc Old.drew Old.setCell OldW.old

/-- the maps' blocks -/
def isTwo (tm sm : Nat) : Nat → Prop := fun g => g = tm ∨ g = sm
structure AS (w wx : World) (tm sm n : Nat) (F G : ByteArray → Option ByteArray) : Prop where
  old : Old w wx
  t : MapV Tryz.prog 9 Value.string wx tm n (fun q => (F q).map Value.string)
  s : MapV Tryz.prog 9 Value.string wx sm n (fun q => (G q).map Value.string)
  t0 : w.heap.size ≤ tm
  s0 : w.heap.size ≤ sm
  ne : tm ≠ sm
variable {w wx W : World} {tm sm n : Nat} {F G : ByteArray → Option ByteArray}
theorem AS.after (h : AS w wx tm sm n F G) (o : Old wx W) : AS w W tm sm n F G := ⟨h.old.trans o, h.t.old o, h.s.old o, h.t0, h.s0, h.ne⟩
theorem AS.mono (h : AS w wx tm sm n F G) {m : Nat} (hm : n ≤ m) : AS w wx tm sm m F G := ⟨h.old, h.t.mono hm, h.s.mono hm, h.t0, h.s0, h.ne⟩
theorem AS.made (w : World) : AS w ((w.alloc (.map #[] 0)).alloc (.map #[] 0)) w.heap.size (w.heap.size + 1) 0 (fun _ => none) (fun _ => none) := by
  refine ⟨((Old.refl w).alloc _).alloc _, (MapV.made _ _ _ w).old ((Old.refl _).alloc _), ?_, Nat.le_refl _, by omega, by omega⟩
  have := MapV.made Tryz.prog 9 Value.string (w.alloc (.map #[] 0))
  rw [show (w.alloc (.map #[] 0)).heap.size = w.heap.size + 1 by simp] at this
  exact this
theorem AS.putT (h : AS w wx tm sm n F G) (hn : n < 1000000) {x y : ByteArray} {kl : Lit} (hk : keyOf Tryz.prog 9 (.string x) = some kl) :
    ∃ w1, (Instr.mapUpdate 82 (.map (some tm)) (.string x) (.string y)).run Tryz.prog wx = .ok () w1 ∧ AS w w1 tm sm (n + 1) (putB F x y) G ∧ KeptX (isTwo tm sm) wx w1 := by
  obtain ⟨w1, r1, m1, g1⟩ := h.t.upd (string_keyed Tryz.underlying9) (fun _ _ => str_kv) Tryz.underlying82 (by omega) hk (.string y)
  refine ⟨w1, r1, ⟨h.old.grown g1 fun k e => Option.some.inj e ▸ h.t0, ?_, (h.s.kept g1 fun e => h.ne (Option.some.inj e).symm).mono (by omega), h.t0, h.s0, h.ne⟩, KeptX.of_grown g1 fun g e => .inl (Option.some.inj e).symm⟩
  rw [putB_map]
  exact m1
theorem AS.putS (h : AS w wx tm sm n F G) (hn : n < 1000000) {x y : ByteArray} {kl : Lit} (hk : keyOf Tryz.prog 9 (.string x) = some kl) :
    ∃ w1, (Instr.mapUpdate 82 (.map (some sm)) (.string x) (.string y)).run Tryz.prog wx = .ok () w1 ∧ AS w w1 tm sm (n + 1) F (putB G x y) ∧ KeptX (isTwo tm sm) wx w1 := by
  obtain ⟨w1, r1, m1, g1⟩ := h.s.upd (string_keyed Tryz.underlying9) (fun _ _ => str_kv) Tryz.underlying82 (by omega) hk (.string y)
  refine ⟨w1, r1, ⟨h.old.grown g1 fun k e => Option.some.inj e ▸ h.s0, (h.t.kept g1 fun e => h.ne (Option.some.inj e)).mono (by omega), ?_, h.t0, h.s0, h.ne⟩, KeptX.of_grown g1 fun g e => .inr (Option.some.inj e).symm⟩
  rw [putB_map]
  exact m1
theorem KeptX.cell2 {w0 : World} {X : Nat → Prop} (hk : KeptX X w0 W) {p : Addr} {v : Value} (hc : w0.cell? p = some v) (hX : ¬ X p.block) : W.cell? p = some v := by
  have hl := World.block_lt_of_cell? w0 p hc
  have hb := hk.block _ hl hX
  rw [← hc]
  unfold World.cell?
  rw [hb]
/-- what was there when the maps were not yet: the maps are not among it -/
theorem not_two (h : AS w wx tm sm n F G) {g : Nat} (hg : wx.heap.size ≤ g) : ¬ isTwo tm sm g := by
  rintro (e | e)
  · have := h.t.lt; omega
  · have := h.s.lt; omega
theorem ByteArray_eq_of {a b : ByteArray} (h : (a.toList == b.toList) = true) : a = b := by
  rw [str_beq] at h
  exact of_decide_eq_true h
/-- what a fresh record's cell says, in all worlds in which the maps alone were written -/
theorem laterK {w0 : World} {X : Nat → Prop} {p : Addr} {v : Value} (hc : w0.cell? p = some v) (hX : ¬ X p.block) : ∀ V, KeptX X w0 V → V.cell? p = some v := fun _ hk => hk.cell2 hc hX
def RetAl (M : List Mn) (e : Ending) : Prop := ∃ b : Bool, e = .returned (.bool b) ∧ (b = true → AlikeM M)
set_option maxRecDepth 100000 in
set_option maxHeartbeats 6400000 in
theorem alike_any (v : Value) (S : List (List Tk)) (w : World) (hv : Srk w v S) (hM : (mns S S.length).length ≤ 1000) (hm1 : ∀ m ∈ mns S S.length, m.term.size ≤ 4194304 ∧ m.sub.size ≤ 4194304 ∧ m.aim.size ≤ 4194304)
    (hm2 : ∀ m ∈ mns S S.length, (foldS m.term).size ≤ 4194304 ∧ (foldS m.sub).size ≤ 4194304 ∧ (foldS m.aim).size ≤ 4194304) :
    Calls Tryz.prog 16 #[v] w fun e w' => RetAl (mns S S.length) e ∧ Old w w' := by
  obtain ⟨sa, scap, rfl, hsc1, hsc2⟩ := Seqs.form hv
  have Hroom := Lib.hid (fun (a b : Nat) (T : List Tk) (t : Tk) (h1 : S[a]? = some T) (h2 : T[b]? = some t) => mns_room h1 h2)
  have Hmem := Lib.hid (fun (a b : Nat) (T : List Tk) (t : Tk) (h1 : S[a]? = some T) (h2 : T[b]? = some t) (m : Mn) (hm : m ∈ mnT ((totK S a + b : Nat) : Int) a t) => mem_mns.2 ⟨a, b, T, t, (List.getElem?_eq_some_iff.1 h1).1, h1, h2, hm⟩)
  have Hm1 := Lib.hid hm1
  have Hm2 := Lib.hid hm2
  have Hend := Lib.hid (fun F G (h : AlkI (mns S S.length) F G) => h.alike)
  have Hpre : Hid (∀ i, i ≤ S.length → (mns S i).length ≤ 1000) := Lib.hid fun i hi => Nat.le_trans (mns_pre S hi).length_le hM
  obtain ⟨bs, os, has, hats⟩ := Srk.open hv
  have Has := Lib.hid has
  have Hats := Lib.hid hats
  have hmm := @run_makeMap Tryz.prog
  have Hno : Hid (RetAl (mns S S.length) (.returned (.bool false))) := Lib.hid ⟨false, rfl, fun h => by cases h⟩
  have hA0 := AS.made w
  clear hv has hats hm1 hm2
  go_enter Tryz.func16, Tryz.ntmps16
  go_upto_region 2 with fail
  have HA0 := Lib.hid hA0
  generalize (w.alloc (.map #[] 0)).alloc (.map #[] 0) = w0 at *
  generalize w.heap.size = tm at *
  generalize htm : tm + 1 = sm at *
  clear hA0 hmm htm
  go_wp2_with fail
  go_loopw [29] (fun j wx => ∃ (i n : Nat) (F G : ByteArray → Option ByteArray), j = .int .i64 i ∧ i ≤ S.length ∧ n ≤ 2 * (mns S i).length ∧ AlkI (mns S i) F G ∧ AS w wx tm sm n F G) (fun j _ => S.length - (intOf j).toNat)
  case atStart => exact ⟨0, 0, _, _, rfl, Nat.zero_le _, Nat.zero_le _, AlkI.nil, HA0.out⟩
  case round =>
    clear HA0
    obtain ⟨i, n, F, G, rfl, hi, hn, hI, hA⟩ := hrel
    have HI := Lib.hid hI
    have HA := Lib.hid hA
    have hpi := Hpre.out i hi
    clear hI hA
    by_cases hlt : i < S.length
    · have hi1 : (i : Int) < S.length := by omega
      obtain ⟨T, hTi⟩ : ∃ T, S[i]? = some T := ⟨_, List.getElem?_eq_getElem hlt⟩
      obtain ⟨a0, n0, c0', ax, cx, hcs, hTs, k1, k2⟩ := Hats.out i T hTi
      obtain rfl := Has.out (by omega)
      have c0 : ∀ V, Old wr V → V.cell? ⟨bs, os + i * 2, none⟩ = some (.slice a0 n0 c0') := fun V o => (hcs V (HA.out.old.trans o)).1
      have c1 : ∀ V, Old wr V → V.cell? ⟨bs, os + i * 2 + 1, none⟩ = some (.slice ax T.length cx) := fun V o => (hcs V (HA.out.old.trans o)).2
      obtain ⟨bt, ot, hat, hatt⟩ := Trs.open hTs
      have HTi := Lib.hid hTi
      have Hat := Lib.hid hat
      have Hatt := Lib.hid hatt
      have Hsuc : Hid (mns S (i + 1) = mns S i ++ mnsT (totK S i) i T T.length) := Lib.hid (mns_succ hTi)
      clear hcs hTs hat hatt hTi
      go_upto_region 5 with fail
      have d1 := later (show (wr.alloc (.cells #[.slice a0 n0 c0', .slice ax T.length cx] 33)).cell? ⟨wr.heap.size, 1, none⟩ = some (.slice ax T.length cx) by simp [go_sem])
      have HA1 := Lib.hid (HA.out.after ((Old.refl wr).alloc (.cells #[.slice a0 n0 c0', .slice ax T.length cx] 33)))
      generalize wr.alloc (.cells #[.slice a0 n0 c0', .slice ax T.length cx] 33) = w1 at *
      generalize wr.heap.size = g1 at *
      clear c0 c1 HA
      go_wp2_with fail
      go_loopw [36] (fun j wx => ∃ (q n : Nat) (F G : ByteArray → Option ByteArray), j = .int .i64 q ∧ q ≤ T.length ∧ n ≤ 2 * (mns S i ++ mnsT (totK S i) i T q).length ∧ AlkI (mns S i ++ mnsT (totK S i) i T q) F G ∧ AS w wx tm sm n F G) (fun j _ => T.length - (intOf j).toNat)
      case atStart => exact ⟨0, n, F, G, rfl, Nat.zero_le _, by rw [mnsT, List.append_nil]; exact hn, by rw [mnsT, List.append_nil]; exact HI.out, HA1.out⟩
      case round =>
        clear d1 HI HA1 hn n F G
        obtain ⟨q, n, F, G, rfl, hq, hn, hI, hA⟩ := hrel
        have HI := Lib.hid hI
        have HA := Lib.hid hA
        clear hI hA
        by_cases hlt2 : q < T.length
        · have hq1 : (q : Int) < T.length := by omega
          obtain ⟨t, ht⟩ : ∃ t, T[q]? = some t := ⟨_, List.getElem?_eq_getElem hlt2⟩
          obtain ⟨kd, nm, ti, lv, a4, c4', a5, c5', a6, n6, c6', ln, hcs, hK4, hK5⟩ := Hatt.out q t ht
          obtain rfl := Hat.out (by omega)
          have o0 := Lib.hid HA.out.old
          have g0 : ∀ V, Old wr V → V.cell? ⟨bt, ot + q * 8, none⟩ = some (.int .i64 kd) := fun V o => (hcs V (o0.out.trans o)).1
          have g1' : ∀ V, Old wr V → V.cell? ⟨bt, ot + q * 8 + 1, none⟩ = some (.string nm) := fun V o => (hcs V (o0.out.trans o)).2.1
          have g2 : ∀ V, Old wr V → V.cell? ⟨bt, ot + q * 8 + 2, none⟩ = some (.string ti) := fun V o => (hcs V (o0.out.trans o)).2.2.1
          have g3 : ∀ V, Old wr V → V.cell? ⟨bt, ot + q * 8 + 3, none⟩ = some (.int .i64 lv) := fun V o => (hcs V (o0.out.trans o)).2.2.2.1
          have g4 : ∀ V, Old wr V → V.cell? ⟨bt, ot + q * 8 + 4, none⟩ = some (.slice a4 t.keys.length c4') := fun V o => (hcs V (o0.out.trans o)).2.2.2.2.1
          have g5 : ∀ V, Old wr V → V.cell? ⟨bt, ot + q * 8 + 5, none⟩ = some (.slice a5 t.sees.length c5') := fun V o => (hcs V (o0.out.trans o)).2.2.2.2.2.1
          have g6 : ∀ V, Old wr V → V.cell? ⟨bt, ot + q * 8 + 6, none⟩ = some (.slice a6 n6 c6') := fun V o => (hcs V (o0.out.trans o)).2.2.2.2.2.2.1
          have g7 : ∀ V, Old wr V → V.cell? ⟨bt, ot + q * 8 + 7, none⟩ = some (.int .i64 ln) := fun V o => (hcs V (o0.out.trans o)).2.2.2.2.2.2.2
          obtain ⟨b4, o4, ha4, h4⟩ := Kqs.open hK4
          obtain ⟨b5, o5, ha5, h5⟩ := Sqs'.open hK5
          have Ha4 := Lib.hid ha4
          have H4 := Lib.hid h4
          have Ha5 := Lib.hid ha5
          have H5 := Lib.hid h5
          have hroom := Hroom.out i q T t HTi.out ht
          have HTs : Hid (mns S i ++ mnsT (totK S i) i T (q + 1) = (mns S i ++ mnsT (totK S i) i T q) ++ mnT ((totK S i + q : Nat) : Int) i t) := Lib.hid (by rw [mnsT_succ ht, List.append_assoc])
          have HMt := Lib.hid (fun m hm => Hmem.out i q T t HTi.out ht m hm)
          clear hcs hK4 hK5 ha4 h4 ha5 h5 ht
          go_upto_region 8 with fail
          have C4 := show (wr.alloc (.cells #[.int .i64 kd, .string nm, .string ti, .int .i64 lv, .slice a4 t.keys.length c4', .slice a5 t.sees.length c5', .slice a6 n6 c6', .int .i64 ln] 38)).cell? ⟨wr.heap.size, 4, none⟩ = some (.slice a4 t.keys.length c4') by simp [go_sem]
          have C5 := show (wr.alloc (.cells #[.int .i64 kd, .string nm, .string ti, .int .i64 lv, .slice a4 t.keys.length c4', .slice a5 t.sees.length c5', .slice a6 n6 c6', .int .i64 ln] 38)).cell? ⟨wr.heap.size, 5, none⟩ = some (.slice a5 t.sees.length c5') by simp [go_sem]
          have HAA := Lib.hid (HA.out.after ((Old.refl wr).alloc (.cells #[.int .i64 kd, .string nm, .string ti, .int .i64 lv, .slice a4 t.keys.length c4', .slice a5 t.sees.length c5', .slice a6 n6 c6', .int .i64 ln] 38)))
          have hg8 : ¬ isTwo tm sm wr.heap.size := not_two HA.out (Nat.le_refl _)
          generalize wr.alloc (.cells #[.int .i64 kd, .string nm, .string ti, .int .i64 lv, .slice a4 t.keys.length c4', .slice a5 t.sees.length c5', .slice a6 n6 c6', .int .i64 ln] 38) = wA at *
          generalize wr.heap.size = g8 at *
          have K5 := Lib.hid (laterK (X := isTwo tm sm) C5 hg8)
          clear g0 g1' g2 g3 g4 g5 g6 g7 HA o0 C5 hg8
          generalize hP : mns S i ++ mnsT (totK S i) i T q = P at *
          clear hP
          have HI0 : Hid (AlkI (P ++ (t.keys.take 0).map (mnK ((totK S i + q : Nat) : Int) i)) F G) := Lib.hid (by rw [List.take_zero, List.map_nil, List.append_nil]; exact HI.out)
          clear HI
          go_wp2_with fail
          clear C4
          go_loopw [43] (fun j wx => ∃ (r n : Nat) (F G : ByteArray → Option ByteArray), j = .int .i64 r ∧ r ≤ t.keys.length ∧ n ≤ 2 * (P.length + r) ∧ AlkI (P ++ (t.keys.take r).map (mnK ((totK S i + q : Nat) : Int) i)) F G ∧ AS w wx tm sm n F G ∧ KeptX (isTwo tm sm) wA wx) (fun j _ => t.keys.length - (intOf j).toNat)
          case atStart => exact ⟨0, n, F, G, rfl, Nat.zero_le _, hn, HI0.out, HAA.out, KeptX.of_old (Old.refl _)⟩
          case round =>
            clear HI0 HAA hn n F G
            obtain ⟨r, n, F, G, rfl, hr, hn, hI, hA, hk⟩ := hrel
            have HI := Lib.hid hI
            have HA := Lib.hid hA
            have HK := Lib.hid hk
            clear hI hA hk
            by_cases hlt3 : r < t.keys.length
            · have hr1 : (r : Int) < t.keys.length := by omega
              obtain ⟨x, hx⟩ : ∃ x, t.keys[r]? = some x := ⟨_, List.getElem?_eq_getElem hlt3⟩
              obtain rfl := Ha4.out (by omega)
              have Ho := Lib.hid HA.out.old
              have e0 : ∀ V, Old wr V → V.cell? ⟨b4, o4 + r * 3, none⟩ = some (.string x.term) := fun V o => (H4.out r x hx V (Ho.out.trans o)).1
              have e1 : ∀ V, Old wr V → V.cell? ⟨b4, o4 + r * 3 + 1, none⟩ = some (.string x.sub) := fun V o => (H4.out r x hx V (Ho.out.trans o)).2.1
              have e2 : ∀ V, Old wr V → V.cell? ⟨b4, o4 + r * 3 + 2, none⟩ = some (.int .i64 x.line) := fun V o => (H4.out r x hx V (Ho.out.trans o)).2.2
              have hmem := HMt.out (mnK ((totK S i + q : Nat) : Int) i x) (by rw [mnT, List.mem_append, List.mem_map]; exact .inl ⟨x, List.mem_of_getElem? hx, rfl⟩)
              have hz1 : x.term.size ≤ 4194304 := (Hm1.out _ hmem).1
              have hz2 : x.sub.size ≤ 4194304 := (Hm1.out _ hmem).2.1
              have hf1 : (foldS x.term).size ≤ 4194304 := (Hm2.out _ hmem).1
              have hf2 : (foldS x.sub).size ≤ 4194304 := (Hm2.out _ hmem).2.1
              have HF1 := Lib.hid (fun V => RFold_any x.term V hz1)
              have HF2 := Lib.hid (fun V => RFold_any x.sub V hz2)
              have Hkey : Hid ((F (foldS x.term) = none ∨ F (foldS x.term) = some x.term) → (G (foldS x.term ++ nlB ++ foldS x.sub) = none ∨ G (foldS x.term ++ nlB ++ foldS x.sub) = some x.sub) →
                  AlkI (P ++ (t.keys.take (r + 1)).map (mnK ((totK S i + q : Nat) : Int) i)) (putB F (foldS x.term) x.term) (putB G (foldS x.term ++ nlB ++ foldS x.sub) x.sub)) := Lib.hid fun h1 h2 => by
                rw [List.take_add_one, hx, List.map_append, ← List.append_assoc]
                exact HI.out.key (m := mnK ((totK S i + q : Nat) : Int) i x) rfl h1 h2
              clear hx hmem HI
              obtain ⟨f1, hf1e⟩ : ∃ f1, foldS x.term = f1 := ⟨_, rfl⟩
              obtain ⟨f2, hf2e⟩ : ∃ f2, foldS x.sub = f2 := ⟨_, rfl⟩
              rw [hf1e] at HF1 Hkey hf1
              rw [hf2e] at HF2 Hkey hf2
              obtain ⟨gk, hgk⟩ : ∃ gk, f1 ++ nlB ++ f2 = gk := ⟨_, rfl⟩
              have hgs : gk.size ≤ 8388609 := by rw [← hgk, ByteArray.size_append, ByteArray.size_append]; have : nlB.size = 1 := rfl; omega
              rw [hgk] at Hkey
              have Hgk : Hid (f1 ++ nlB ++ f2 = gk) := Lib.hid hgk
              have hk1 := Lib.hid (keyK (s := f1) (by omega))
              have hk2 := Lib.hid (keyK (s := gk) (by omega))
              clear hf1e hf2e hgk
              go_upto_region 11 with fail
              have HAB := Lib.hid (HA.out.after ((Old.refl wr).alloc (.cells #[.string x.term, .string x.sub, .int .i64 x.line] 40)))
              have HKB := Lib.hid (HK.out.trans (KeptX.of_old ((Old.refl wr).alloc (.cells #[.string x.term, .string x.sub, .int .i64 x.line] 40))))
              have p0 := later (show (wr.alloc (.cells #[.string x.term, .string x.sub, .int .i64 x.line] 40)).cell? ⟨wr.heap.size, 0, none⟩ = some (.string x.term) by simp [go_sem])
              have p1 := later (show (wr.alloc (.cells #[.string x.term, .string x.sub, .int .i64 x.line] 40)).cell? ⟨wr.heap.size, 1, none⟩ = some (.string x.sub) by simp [go_sem])
              have hgr : ¬ isTwo tm sm wr.heap.size := not_two HA.out (Nat.le_refl _)
              generalize wr.alloc (.cells #[.string x.term, .string x.sub, .int .i64 x.line] 40) = wB at *
              generalize wr.heap.size = gr at *
              clear e0 e1 e2 HA HK Ho
              have hgs' := hgs
              have hM' := Hpre.out S.length (Nat.le_refl _)
              go_upto_region 13 with (first
                | (go_at_call 12; (with_reducible refine (HF1.out _).mono ?_); rintro z w5 ⟨rfl, o5⟩)
                | (go_at_call 12; (with_reducible refine (HF2.out _).mono ?_); rintro z w6 ⟨rfl, o6⟩; have o56 := o5.trans o6; have HA6 := Lib.hid (HAB.out.after o56); have HK6 := Lib.hid (HKB.out.trans (KeptX.of_old o56))))
              rw [show f1 ++ (⟨#[10]⟩ : ByteArray) ++ f2 = gk from Hgk.out]
              have P0 := Lib.hid (fun V (o : Old w6 V) => p0 V (o56.trans o))
              have P1 := Lib.hid (fun V (o : Old w6 V) => p1 V (o56.trans o))
              clear p0 p1 o5 o6 o56 HAB HKB HF1 HF2 hgs'
              obtain ⟨u1, hu1⟩ : ∃ u, (F f1).map Value.string = u := ⟨_, rfl⟩
              have Hu1 := Lib.hid hu1
              go_upto_region 14 with (refine wpList_lookup_mv_ok rfl _ _ _ rfl 9 9 (string_keyed Tryz.underlying9) Value.string Tryz.underlying82 (.string ⟨#[]⟩) zeroStrK tm _ _ rfl HA6.out.t f1 _ rfl hk1.out _ hu1 ?_)
              clear hu1
              have p0 := P0.out
              go_cut [68] (fun v wy => ∃ bb : Bool, v = .bool bb ∧ (bb = false → F f1 = none ∨ F f1 = some x.term) ∧ w6 = wy)
              case first =>
                cases hq : F f1 with
                | none =>
                  have e : u1 = none := by rw [← Hu1.out, hq]; rfl
                  subst e
                  clear Hu1
                  go_wp2_with fail
                  go_meet
                  exact ⟨false, rfl, fun _ => .inl hq, by trivial⟩
                | some y =>
                  have e : u1 = some (.string y) := by rw [← Hu1.out, hq]; rfl
                  subst e
                  clear Hu1
                  have HQ := Lib.hid hq
                  clear hq
                  go_wp2_with fail
                  go_meet
                  exact ⟨_, rfl, fun h => .inr (HQ.out.trans (congrArg some (ByteArray_eq_of (by simpa using h)))), by trivial⟩
              case rest =>
                obtain ⟨bb, rfl, hbb, rfl⟩ := hcut
                have Hb1 := Lib.hid hbb
                clear hbb p0
                cases bb with
                | true =>
                  go_wp2_with fail
                  go_ret
                  exact ⟨Hno.out, HA6.out.old⟩
                | false =>
                  obtain ⟨u2, hu2⟩ : ∃ u, (G gk).map Value.string = u := ⟨_, rfl⟩
                  have Hu2 := Lib.hid hu2
                  go_upto_region 17 with (refine wpList_lookup_mv_ok rfl _ _ _ rfl 9 9 (string_keyed Tryz.underlying9) Value.string Tryz.underlying82 (.string ⟨#[]⟩) zeroStrK sm _ _ rfl HA6.out.s gk _ rfl hk2.out _ hu2 ?_)
                  clear hu2
                  have p1 := P1.out
                  go_cut [81] (fun v wy => ∃ bb : Bool, v = .bool bb ∧ (bb = false → G gk = none ∨ G gk = some x.sub) ∧ w6 = wy)
                  case first =>
                    cases hq : G gk with
                    | none =>
                      have e : u2 = none := by rw [← Hu2.out, hq]; rfl
                      subst e
                      clear Hu2
                      go_wp2_with fail
                      go_meet
                      exact ⟨false, rfl, fun _ => .inl hq, by trivial⟩
                    | some y =>
                      have e : u2 = some (.string y) := by rw [← Hu2.out, hq]; rfl
                      subst e
                      clear Hu2
                      have HQ := Lib.hid hq
                      clear hq
                      go_wp2_with fail
                      go_meet
                      exact ⟨_, rfl, fun h => .inr (HQ.out.trans (congrArg some (ByteArray_eq_of (by simpa using h)))), by trivial⟩
                  case rest =>
                    obtain ⟨bb, rfl, hbb, rfl⟩ := hcut
                    have Hb2 := Lib.hid hbb
                    clear hbb p1
                    cases bb with
                    | true =>
                      go_wp2_with fail
                      go_ret
                      exact ⟨Hno.out, HA6.out.old⟩
                    | false =>
                      have HI2 := Lib.hid (Hkey.out (Hb1.out (by first | trivial | rfl)) (Hb2.out (by first | trivial | rfl)))
                      have hAd := HA6.out.after (Old.refl w6).drew
                      obtain ⟨wa, ra, Aa, ka⟩ := hAd.putT (y := x.term) (by omega) hk1.out
                      obtain ⟨wb, rb, Ab, kb⟩ := Aa.putS (y := x.sub) (by omega) hk2.out
                      obtain ⟨wc, rc, Ac, kc⟩ := hAd.putS (y := x.sub) (by omega) hk2.out
                      obtain ⟨wd, rd, Ad, kd'⟩ := Ac.putT (y := x.term) (by omega) hk1.out
                      have q0 := P0.out w6.drew (Old.refl w6).drew
                      have q1 := P1.out w6.drew (Old.refl w6).drew
                      have a1 := ka.cell2 q1 hgr
                      have c0 := kc.cell2 q0 hgr
                      have HAb := Lib.hid Ab
                      have HAd := Lib.hid Ad
                      have HKb := Lib.hid ((HK6.out.trans (KeptX.of_old (Old.refl w6).drew)).trans (ka.trans kb))
                      have HKd := Lib.hid ((HK6.out.trans (KeptX.of_old (Old.refl w6).drew)).trans (kc.trans kd'))
                      clear Aa Ab Ac Ad ka kb kc kd' hAd Hu1 Hu2 Hkey Hb1 Hb2 HA6 HK6
                      go_upto_region 19 with fail
                      go_region
                      all_goals
                        go_wp2_with fail
                        go_roundw
                        case rel => first
                          | exact ⟨r + 1, n + 1 + 1, _, _, by go_num, by omega, by omega, HI2.out, HAb.out, HKb.out⟩
                          | exact ⟨r + 1, n + 1 + 1, _, _, by go_num, by omega, by omega, HI2.out, HAd.out, HKd.out⟩
                        case measure => simp [intOf]; omega
            · obtain rfl : r = t.keys.length := by omega
              have hr1 : ¬ (t.keys.length : Int) < t.keys.length := by omega
              rw [List.take_length] at HI
              have k5 := K5.out _ HK.out
              have HI0 : Hid (AlkI (P ++ t.keys.map (mnK ((totK S i + q : Nat) : Int) i) ++ (t.sees.take 0).map (mnS ((totK S i + q : Nat) : Int) i)) F G) := Lib.hid (by rw [List.take_zero, List.map_nil, List.append_nil]; exact HI.out)
              have HA1 := HA
              clear HI HK HA hr
              go_upto_region 22 with fail
              clear k5
              go_loopw [94] (fun j wx => ∃ (r n : Nat) (F G : ByteArray → Option ByteArray), j = .int .i64 r ∧ r ≤ t.sees.length ∧ n ≤ 2 * (P.length + t.keys.length + r) ∧ AlkI (P ++ t.keys.map (mnK ((totK S i + q : Nat) : Int) i) ++ (t.sees.take r).map (mnS ((totK S i + q : Nat) : Int) i)) F G ∧ AS w wx tm sm n F G) (fun j _ => t.sees.length - (intOf j).toNat)
              case atStart => exact ⟨0, n, F, G, rfl, Nat.zero_le _, hn, HI0.out, HA1.out⟩
              case round =>
                clear HI0 HA1 hn n F G
                obtain ⟨r, n, F, G, rfl, hr, hn, hI, hA⟩ := hrel
                have HI := Lib.hid hI
                have HA := Lib.hid hA
                clear hI hA
                by_cases hlt3 : r < t.sees.length
                · have hr1 : (r : Int) < t.sees.length := by omega
                  obtain ⟨x, hx⟩ : ∃ x, t.sees[r]? = some x := ⟨_, List.getElem?_eq_getElem hlt3⟩
                  obtain rfl := Ha5.out (by omega)
                  have Ho := Lib.hid HA.out.old
                  have e0 : ∀ V, Old wr V → V.cell? ⟨b5, o5 + r * 3, none⟩ = some (.string x.frm) := fun V o => (H5.out r x hx V (Ho.out.trans o)).1
                  have e1 : ∀ V, Old wr V → V.cell? ⟨b5, o5 + r * 3 + 1, none⟩ = some (.string x.aim) := fun V o => (H5.out r x hx V (Ho.out.trans o)).2.1
                  have e2 : ∀ V, Old wr V → V.cell? ⟨b5, o5 + r * 3 + 2, none⟩ = some (.int .i64 x.line) := fun V o => (H5.out r x hx V (Ho.out.trans o)).2.2
                  have hmem := HMt.out (mnS ((totK S i + q : Nat) : Int) i x) (by rw [mnT, List.mem_append, List.mem_map, List.mem_map]; exact .inr ⟨x, List.mem_of_getElem? hx, rfl⟩)
                  have hz1 : x.frm.size ≤ 4194304 := (Hm1.out _ hmem).1
                  have hz2 : x.aim.size ≤ 4194304 := (Hm1.out _ hmem).2.2
                  have hf1 : (foldS x.frm).size ≤ 4194304 := (Hm2.out _ hmem).1
                  have hf2 : (foldS x.aim).size ≤ 4194304 := (Hm2.out _ hmem).2.2
                  have HF1 := Lib.hid (fun V => RFold_any x.frm V hz1)
                  have HF2 := Lib.hid (fun V => RFold_any x.aim V hz2)
                  have Hkey : Hid ((F (foldS x.frm) = none ∨ F (foldS x.frm) = some x.frm) → (G (nlB ++ foldS x.aim) = none ∨ G (nlB ++ foldS x.aim) = some x.aim) →
                      AlkI (P ++ t.keys.map (mnK ((totK S i + q : Nat) : Int) i) ++ (t.sees.take (r + 1)).map (mnS ((totK S i + q : Nat) : Int) i)) (putB F (foldS x.frm) x.frm) (putB G (nlB ++ foldS x.aim) x.aim)) := Lib.hid fun h1 h2 => by
                    rw [List.take_add_one, hx, List.map_append, ← List.append_assoc]
                    exact HI.out.see (m := mnS ((totK S i + q : Nat) : Int) i x) rfl h1 h2
                  clear hx hmem HI
                  obtain ⟨f1, hf1e⟩ : ∃ f1, foldS x.frm = f1 := ⟨_, rfl⟩
                  obtain ⟨f2, hf2e⟩ : ∃ f2, foldS x.aim = f2 := ⟨_, rfl⟩
                  rw [hf1e] at HF1 Hkey hf1
                  rw [hf2e] at HF2 Hkey hf2
                  obtain ⟨gk, hgk⟩ : ∃ gk, nlB ++ f2 = gk := ⟨_, rfl⟩
                  have hgs : gk.size ≤ 8388609 := by rw [← hgk, ByteArray.size_append]; have : nlB.size = 1 := rfl; omega
                  rw [hgk] at Hkey
                  have Hgk : Hid (nlB ++ f2 = gk) := Lib.hid hgk
                  have hk1 := Lib.hid (keyK (s := f1) (by omega))
                  have hk2 := Lib.hid (keyK (s := gk) (by omega))
                  have hM' := Hpre.out S.length (Nat.le_refl _)
                  clear hf1e hf2e hgk
                  go_upto_region 24 with fail
                  have HAB := Lib.hid (HA.out.after ((Old.refl wr).alloc (.cells #[.string x.frm, .string x.aim, .int .i64 x.line] 78)))
                  have p0 := later (show (wr.alloc (.cells #[.string x.frm, .string x.aim, .int .i64 x.line] 78)).cell? ⟨wr.heap.size, 0, none⟩ = some (.string x.frm) by simp [go_sem])
                  have p1 := later (show (wr.alloc (.cells #[.string x.frm, .string x.aim, .int .i64 x.line] 78)).cell? ⟨wr.heap.size, 1, none⟩ = some (.string x.aim) by simp [go_sem])
                  have hgr : ¬ isTwo tm sm wr.heap.size := not_two HA.out (Nat.le_refl _)
                  generalize wr.alloc (.cells #[.string x.frm, .string x.aim, .int .i64 x.line] 78) = wB at *
                  generalize wr.heap.size = gr at *
                  clear e0 e1 e2 HA Ho
                  obtain ⟨u1, hu1⟩ : ∃ u, (F f1).map Value.string = u := ⟨_, rfl⟩
                  have Hu1 := Lib.hid hu1
                  go_upto_region 26 with (first
                    | (go_at_call 12; (with_reducible refine (HF1.out _).mono ?_); rintro z w5 ⟨rfl, o5⟩; have HA5 := Lib.hid (HAB.out.after o5))
                    | (refine wpList_lookup_mv_ok rfl _ _ _ rfl 9 9 (string_keyed Tryz.underlying9) Value.string Tryz.underlying82 (.string ⟨#[]⟩) zeroStrK tm _ _ rfl HA5.out.t f1 _ rfl hk1.out _ hu1 ?_))
                  clear hu1 HAB HF1
                  have P0 := Lib.hid (fun V (o : Old w5 V) => p0 V (o5.trans o))
                  have P1 := Lib.hid (fun V (o : Old w5 V) => p1 V (o5.trans o))
                  clear p0 p1 o5
                  have p0 := P0.out
                  go_cut [113] (fun v wy => ∃ bb : Bool, v = .bool bb ∧ (bb = false → F f1 = none ∨ F f1 = some x.frm) ∧ w5 = wy)
                  case first =>
                    cases hq : F f1 with
                    | none =>
                      have e : u1 = none := by rw [← Hu1.out, hq]; rfl
                      subst e
                      clear Hu1
                      go_wp2_with fail
                      go_meet
                      exact ⟨false, rfl, fun _ => .inl hq, by trivial⟩
                    | some y =>
                      have e : u1 = some (.string y) := by rw [← Hu1.out, hq]; rfl
                      subst e
                      clear Hu1
                      have HQ := Lib.hid hq
                      clear hq
                      go_wp2_with fail
                      go_meet
                      exact ⟨_, rfl, fun h => .inr (HQ.out.trans (congrArg some (ByteArray_eq_of (by simpa using h)))), by trivial⟩
                  case rest =>
                    obtain ⟨bb, rfl, hbb, rfl⟩ := hcut
                    have Hb1 := Lib.hid hbb
                    clear hbb p0
                    cases bb with
                    | true =>
                      go_wp2_with fail
                      go_ret
                      exact ⟨Hno.out, HA5.out.old⟩
                    | false =>
                      obtain ⟨wa, ra, Aa, ka⟩ := HA5.out.putT (y := x.frm) (by omega) hk1.out
                      have HAa := Lib.hid Aa
                      have p0 := P0.out
                      have q1 := later (ka.cell2 (P1.out w5 (Old.refl w5)) hgr)
                      clear Aa ka HA5
                      obtain ⟨u2, hu2⟩ : ∃ u, (G gk).map Value.string = u := ⟨_, rfl⟩
                      have Hu2 := Lib.hid hu2
                      go_upto_region 31 with (first
                        | (go_at_call 12; (with_reducible refine (HF2.out _).mono ?_); rintro z w6 ⟨rfl, o6⟩; have HA6 := Lib.hid (HAa.out.after o6))
                        | (refine wpList_lookup_mv_ok rfl _ _ _ rfl 9 9 (string_keyed Tryz.underlying9) Value.string Tryz.underlying82 (.string ⟨#[]⟩) zeroStrK sm _ _ rfl HA6.out.s gk _ (by exact congrArg Value.string Hgk.out) hk2.out _ hu2 ?_))
                      rw [show (⟨#[10]⟩ : ByteArray) ++ f2 = gk from Hgk.out]
                      clear hu2 p0
                      go_cut [134] (fun v wy => ∃ bb : Bool, v = .bool bb ∧ (bb = false → G gk = none ∨ G gk = some x.aim) ∧ w6 = wy)
                      case first =>
                        have q1' := fun V (o : Old w6 V) => q1 V (o6.trans o)
                        clear q1
                        cases hq : G gk with
                        | none =>
                          have e : u2 = none := by rw [← Hu2.out, hq]; rfl
                          subst e
                          clear Hu2
                          go_wp2_with fail
                          go_meet
                          exact ⟨false, rfl, fun _ => .inl hq, by trivial⟩
                        | some y =>
                          have e : u2 = some (.string y) := by rw [← Hu2.out, hq]; rfl
                          subst e
                          clear Hu2
                          have HQ := Lib.hid hq
                          clear hq
                          go_wp2_with fail
                          go_meet
                          exact ⟨_, rfl, fun h => .inr (HQ.out.trans (congrArg some (ByteArray_eq_of (by simpa using h)))), by trivial⟩
                      case rest =>
                        obtain ⟨bb, rfl, hbb, rfl⟩ := hcut
                        have Hb2 := Lib.hid hbb
                        clear hbb
                        cases bb with
                        | true =>
                          go_wp2_with fail
                          go_ret
                          exact ⟨Hno.out, HA6.out.old⟩
                        | false =>
                          have HI2 := Lib.hid (Hkey.out (Hb1.out (by first | trivial | rfl)) (Hb2.out (by first | trivial | rfl)))
                          obtain ⟨wb, rb, Ab, kb⟩ := HA6.out.putS (y := x.aim) (by omega) hk2.out
                          have HAb := Lib.hid Ab
                          have q1' := fun V (o : Old w6 V) => q1 V (o6.trans o)
                          clear Ab kb HA6 HAa q1 Hu1 Hu2 Hkey Hb1 Hb2 ra
                          go_wp2_with fail
                          go_roundw
                          case rel => exact ⟨r + 1, n + 1 + 1, _, _, by go_num, by omega, by omega, HI2.out, HAb.out⟩
                          case measure => simp [intOf]; omega
                · obtain rfl : r = t.sees.length := by omega
                  have hr1 : ¬ (t.sees.length : Int) < t.sees.length := by omega
                  rw [List.take_length] at HI
                  go_wp2_with fail
                  go_roundw
                  case rel => exact ⟨q + 1, n, F, G, by go_num, by omega, by rw [HTs.out]; simp [mnT]; omega, by rw [HTs.out, mnT, ← List.append_assoc]; exact HI.out, HA.out⟩
                  case measure => simp [intOf]; omega
        · obtain rfl : q = T.length := by omega
          have hq1 : ¬ (T.length : Int) < T.length := by omega
          go_wp2_with fail
          go_roundw
          case rel => exact ⟨i + 1, n, F, G, by go_num, by omega, by rw [Hsuc.out]; exact hn, by rw [Hsuc.out]; exact HI.out, HA.out⟩
          case measure => simp [intOf]; omega
    · obtain rfl : i = S.length := by omega
      have hi1 : ¬ (S.length : Int) < S.length := by omega
      go_wp2_with fail
      go_ret
      exact ⟨⟨true, rfl, fun _ => Hend.out F G HI.out⟩, HA.out.old⟩
end Go.Proofs.YtohngjkedhpikaaGreatDoor
