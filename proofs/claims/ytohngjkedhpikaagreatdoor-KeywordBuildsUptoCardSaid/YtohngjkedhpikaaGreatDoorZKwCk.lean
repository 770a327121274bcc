/-
  KEYWORD, CK: Check: whether entries may be an index.
-/
import Derived.Test.YtohngjkedhpikaaGreatDoorZKwCp
import Derived.Test.YtohngjkedhpikaaGreatDoorZKwAl
namespace Go.Proofs.YtohngjkedhpikaaGreatDoor
open Go.RowKit Go.Maps
attribute [local go_sem] Old.refl Old.alloc Old.drew Old.setCell OldW.old

theorem frozen_later {w : World} {g : Nat} {cs : Array Value} {T : TypeId} (h : w.heap[g]? = some (.cells cs T (0, 0))) (i : Nat) : ∀ W, Old w W → W.frozen? ⟨g, i, none⟩ = false := fun _ o => frozen_at (obj_old h o) i
theorem OldBut.sz {g : Nat} {w W : World} (h : OldBut g w W) : w.heap.size ≤ W.heap.size := h.size
theorem two_ne {f : Nat} {w V : World} (_ : OldBut f w V) (o : Obj) : V.heap.size ≠ (V.alloc o).heap.size := by simp
theorem two_sz {f : Nat} {w V : World} (_ : OldBut f w V) (o : Obj) : (V.alloc o).heap.size = V.heap.size + 1 := by simp
theorem alloc1_new (V : World) (o o' : Obj) : ((V.alloc o).alloc o').heap[V.heap.size]? = some o := obj_old (heap_alloc_new V o) ((Old.refl _).alloc _)
theorem alloc2_new (V : World) (o o' : Obj) : ((V.alloc o).alloc o').heap[V.heap.size + 1]? = some o' := by
  have := heap_alloc_new (V.alloc o) o'
  rwa [show (V.alloc o).heap.size = V.heap.size + 1 from by simp] at this
/-- two boxes are filled -/
theorem box_meet {fb n m : Nat} {w2 X : World} {F : ByteArray → Option ByteArray} {g h : Nat} {a b a' b' : Value} {T : TypeId} (hg : X.heap[g]? = some (.cells #[a, b] T (0, 0))) (hh : X.heap[h]? = some (.cells #[a', b'] T (0, 0))) (hne : g ≠ h) (HO : OldBut fb w2 X) (hM : Memo X fb n F)
    (hg2 : w2.heap.size ≤ g) (hh2 : w2.heap.size ≤ h) (hgf : g ≠ fb) (hhf : h ≠ fb) (hn : n ≤ m) (c d c' d' : Value) :
    ((((X.setCell ⟨g, 0, none⟩ c).setCell ⟨g, 1, none⟩ d).setCell ⟨h, 0, none⟩ c').setCell ⟨h, 1, none⟩ d').heap[g]? = some (.cells #[c, d] T (0, 0)) ∧
    ((((X.setCell ⟨g, 0, none⟩ c).setCell ⟨g, 1, none⟩ d).setCell ⟨h, 0, none⟩ c').setCell ⟨h, 1, none⟩ d').heap[h]? = some (.cells #[c', d'] T (0, 0)) ∧
    MemoN ((((X.setCell ⟨g, 0, none⟩ c).setCell ⟨g, 1, none⟩ d).setCell ⟨h, 0, none⟩ c').setCell ⟨h, 1, none⟩ d') fb m ∧
    OldBut fb w2 ((((X.setCell ⟨g, 0, none⟩ c).setCell ⟨g, 1, none⟩ d).setCell ⟨h, 0, none⟩ c').setCell ⟨h, 1, none⟩ d') ∧ w2.heap.size ≤ g ∧ w2.heap.size ≤ h := by
  have hfar : ∀ (W : World) (i j o : Nat) (v : Value), i ≠ j → (W.setCell ⟨j, o, none⟩ v).heap[i]? = W.heap[i]? := fun W i j o v hij => Below.heap_setCell _ _ _ i (fun e => hij e)
  refine ⟨?_, ?_, ⟨F, ((((hM.setCell hgf.symm 0 c).setCell hgf.symm 1 d).setCell hhf.symm 0 c').setCell hhf.symm 1 d').mono hn⟩, (((HO.setNew hg2 0 c).setNew hg2 1 d).setNew hh2 0 c').setNew hh2 1 d', hg2, hh2⟩
  · rw [hfar _ g h 1 _ hne, hfar _ g h 0 _ hne]
    exact set_two hg c d
  · have h2 : ((X.setCell ⟨g, 0, none⟩ c).setCell ⟨g, 1, none⟩ d).heap[h]? = some (.cells #[a', b'] T (0, 0)) := by
      rw [hfar _ h g 1 _ hne.symm, hfar _ h g 0 _ hne.symm]
      exact hh
    exact set_two h2 c' d'
/-- two boxes are filled: both just laid -/
theorem box_meet1 {fb n m : Nat} {w2 X : World} {F : ByteArray → Option ByteArray} {a b a' b' : Value} {T : TypeId} (HO : OldBut fb w2 X) (hM : Memo X fb n F) (hn : n ≤ m) :
    ((X.alloc (.cells #[a, b] T)).alloc (.cells #[a', b'] T)).heap[X.heap.size]? = some (.cells #[a, b] T (0, 0)) ∧
    ((X.alloc (.cells #[a, b] T)).alloc (.cells #[a', b'] T)).heap[X.heap.size + 1]? = some (.cells #[a', b'] T (0, 0)) ∧
    MemoN ((X.alloc (.cells #[a, b] T)).alloc (.cells #[a', b'] T)) fb m ∧
    OldBut fb w2 ((X.alloc (.cells #[a, b] T)).alloc (.cells #[a', b'] T)) ∧ w2.heap.size ≤ X.heap.size ∧ w2.heap.size ≤ X.heap.size + 1 :=
  ⟨alloc1_new _ _ _, alloc2_new _ _ _, ⟨F, (hM.old (((Old.refl _).alloc _).alloc _)).mono hn⟩, (HO.alloc _).alloc _, OldBut.sz HO, Nat.le_succ_of_le (OldBut.sz HO)⟩
theorem box_meet1' {fb n m : Nat} {w2 X : World} {F : ByteArray → Option ByteArray} {a b a' b' : Value} {T : TypeId} (HO : OldBut fb w2 X) (hM : Memo X fb n F) (hn : n ≤ m) :
    ((X.alloc (.cells #[a', b'] T)).alloc (.cells #[a, b] T)).heap[X.heap.size + 1]? = some (.cells #[a, b] T (0, 0)) ∧
    ((X.alloc (.cells #[a', b'] T)).alloc (.cells #[a, b] T)).heap[X.heap.size]? = some (.cells #[a', b'] T (0, 0)) ∧
    MemoN ((X.alloc (.cells #[a', b'] T)).alloc (.cells #[a, b] T)) fb m ∧
    OldBut fb w2 ((X.alloc (.cells #[a', b'] T)).alloc (.cells #[a, b] T)) ∧ w2.heap.size ≤ X.heap.size + 1 ∧ w2.heap.size ≤ X.heap.size :=
  ⟨alloc2_new _ _ _, alloc1_new _ _ _, ⟨F, (hM.old (((Old.refl _).alloc _).alloc _)).mono hn⟩, (HO.alloc _).alloc _, Nat.le_succ_of_le (OldBut.sz HO), OldBut.sz HO⟩
/-- .. the second just laid -/
theorem box_meet2 {fb n m : Nat} {w2 X : World} {F : ByteArray → Option ByteArray} {g : Nat} {a b a' b' : Value} {T : TypeId} (hg : X.heap[g]? = some (.cells #[a, b] T (0, 0))) (HO : OldBut fb w2 X) (hM : Memo X fb n F) (hg2 : w2.heap.size ≤ g) (hgf : g ≠ fb) (hhf : X.heap.size ≠ fb) (hn : n ≤ m) (c d c' d' : Value) :
    (((((X.alloc (.cells #[a', b'] T)).setCell ⟨g, 0, none⟩ c).setCell ⟨g, 1, none⟩ d).setCell ⟨X.heap.size, 0, none⟩ c').setCell ⟨X.heap.size, 1, none⟩ d').heap[g]? = some (.cells #[c, d] T (0, 0)) ∧
    (((((X.alloc (.cells #[a', b'] T)).setCell ⟨g, 0, none⟩ c).setCell ⟨g, 1, none⟩ d).setCell ⟨X.heap.size, 0, none⟩ c').setCell ⟨X.heap.size, 1, none⟩ d').heap[X.heap.size]? = some (.cells #[c', d'] T (0, 0)) ∧
    MemoN (((((X.alloc (.cells #[a', b'] T)).setCell ⟨g, 0, none⟩ c).setCell ⟨g, 1, none⟩ d).setCell ⟨X.heap.size, 0, none⟩ c').setCell ⟨X.heap.size, 1, none⟩ d') fb m ∧
    OldBut fb w2 (((((X.alloc (.cells #[a', b'] T)).setCell ⟨g, 0, none⟩ c).setCell ⟨g, 1, none⟩ d).setCell ⟨X.heap.size, 0, none⟩ c').setCell ⟨X.heap.size, 1, none⟩ d') ∧ w2.heap.size ≤ g ∧ w2.heap.size ≤ X.heap.size :=
  box_meet (obj_old hg ((Old.refl _).alloc _)) (heap_alloc_new _ _) (Nat.ne_of_lt (Array.getElem?_eq_some_iff.1 hg).1) (HO.alloc _) (hM.old ((Old.refl _).alloc _)) hg2 (OldBut.sz HO) hgf hhf hn c d c' d'
/-- .. the first just laid -/
theorem box_meet3 {fb n m : Nat} {w2 X : World} {F : ByteArray → Option ByteArray} {g : Nat} {a b a' b' : Value} {T : TypeId} (hg : X.heap[g]? = some (.cells #[a, b] T (0, 0))) (HO : OldBut fb w2 X) (hM : Memo X fb n F) (hg2 : w2.heap.size ≤ g) (hgf : g ≠ fb) (hn : n ≤ m) (c d : Value) :
    (((X.alloc (.cells #[a', b'] T)).setCell ⟨g, 0, none⟩ c).setCell ⟨g, 1, none⟩ d).heap[X.heap.size]? = some (.cells #[a', b'] T (0, 0)) ∧
    (((X.alloc (.cells #[a', b'] T)).setCell ⟨g, 0, none⟩ c).setCell ⟨g, 1, none⟩ d).heap[g]? = some (.cells #[c, d] T (0, 0)) ∧
    MemoN (((X.alloc (.cells #[a', b'] T)).setCell ⟨g, 0, none⟩ c).setCell ⟨g, 1, none⟩ d) fb m ∧
    OldBut fb w2 (((X.alloc (.cells #[a', b'] T)).setCell ⟨g, 0, none⟩ c).setCell ⟨g, 1, none⟩ d) ∧ w2.heap.size ≤ X.heap.size ∧ w2.heap.size ≤ g := by
  have hfar : ∀ (W : World) (i j o : Nat) (v : Value), i ≠ j → (W.setCell ⟨j, o, none⟩ v).heap[i]? = W.heap[i]? := fun W i j o v hij => Below.heap_setCell _ _ _ i (fun e => hij e)
  have hne : X.heap.size ≠ g := Nat.ne_of_gt (Array.getElem?_eq_some_iff.1 hg).1
  refine ⟨?_, set_two (obj_old hg ((Old.refl _).alloc _)) c d, ⟨F, (((hM.old ((Old.refl _).alloc _)).setCell hgf.symm 0 c).setCell hgf.symm 1 d).mono hn⟩, (((HO.alloc _).setNew hg2 0 c).setNew hg2 1 d), OldBut.sz HO, hg2⟩
  rw [hfar _ _ _ _ _ hne, hfar _ _ _ _ _ hne]
  exact heap_alloc_new _ _
/-- what Check hands back -/
def RetC (l : List En) (t : Int) (e : Ending) : Prop := ∃ a c : Int, e = .returned (.tuple #[.int .i64 a, .int .i64 c]) ∧ CheckK l t a c
set_option maxRecDepth 100000 in
set_option maxHeartbeats 100000000 in
theorem Check_any (v : Value) (l : List En) (topics : Int) (w : World) (hv : Ents w v l) (hT : Tabs w) (hU : (l.flatMap En.sees).length ≤ 1000000)
    (hsz : ∀ e ∈ l, e.term.size ≤ 4194304 ∧ e.sub.size ≤ 4194304 ∧ (foldS e.term).size ≤ 4194304 ∧ (foldS e.sub).size ≤ 4194304 ∧ e.topics.length ≤ 1000000 ∧ ∀ x ∈ e.sees, x.size ≤ 4194304 ∧ (foldS x).size ≤ 4194304) :
    Calls Tryz.prog 15 #[v, .int .i64 topics] w fun e w' => RetC l topics e ∧ Old w w' := by
  obtain ⟨a, cap, rfl, hc1, hc2⟩ := Seqs.form hv
  obtain ⟨b, off, ha, hat⟩ := Ents.open hv
  have Ha := Lib.hid ha
  have Hat := Lib.hid hat
  have HT := Lib.hid hT
  have Hsz := Lib.hid hsz
  have hmm := @run_makeMap Tryz.prog
  by_cases hlong : 10000 < l.length
  · have hi : (10000 : Int) < l.length := by omega
    have Hr := Lib.hid (CheckK_long (t := topics) hlong)
    clear hv ha hat hT hsz Hat Ha Hsz HT hlong
    go_enter Tryz.func15, Tryz.ntmps15
    go_wp2_with fail
    go_ret2
    exact ⟨⟨0, 2, rfl, Hr.out⟩, Old.refl _⟩
  · have hi : ¬ (10000 : Int) < l.length := by omega
    have hl1 : l.length ≤ 10000 := by omega
    have Hlong := Lib.hid hlong
    clear hv ha hat hT hsz hlong
    go_enter Tryz.func15, Tryz.ntmps15
    go_upto_region 4 with fail
    obtain ⟨fb, hfb⟩ : ∃ x, w.heap.size = x := ⟨_, rfl⟩
    have hMm : MemoN (w.alloc (.map #[] 0)) fb 0 := hfb ▸ ⟨_, Memo.made w⟩
    have HMm := Lib.hid hMm
    have HoA := Lib.hid ((Old.refl w).alloc (.map #[] 0))
    have Hfb : Hid (w.heap.size = fb) := Lib.hid hfb
    rw [hfb]
    clear hMm hfb
    generalize w.alloc (.map #[] 0) = wA at *
    go_wp2_with fail
    go_loopw [28] (fun j wx => ∃ (k n : Nat), j = .int .i64 k ∧ k ≤ l.length ∧ n ≤ 2 * seesN l k + 4 * k ∧ MemoN wx fb n ∧ (∀ (i : Nat) (e : En), i < k → l[i]? = some e → oneK l topics i e = 0) ∧ OldBut fb wA wx) (fun j _ => l.length - (intOf j).toNat)
    case atStart => exact ⟨0, 0, rfl, Nat.zero_le _, Nat.zero_le _, HMm.out, fun i e hi => absurd hi (Nat.not_lt_zero i), OldBut.refl _ _⟩
    case round =>
      clear HMm
      obtain ⟨k, n, rfl, hk, hn, hM, hno, hLO⟩ := hrel
      have HM := Lib.hid hM
      have Hno := Lib.hid hno
      have HLO := Lib.hid hLO
      have ho := hLO.base HoA.out (Nat.le_of_eq Hfb.out)
      clear hM hno hLO
      by_cases hlt : k < l.length
      · have hi1 : (k : Int) < l.length := by omega
        obtain ⟨e, he⟩ : ∃ e, l[k]? = some e := ⟨_, List.getElem?_eq_getElem hlt⟩
        obtain ⟨a2, c2, a3, c3, hcs, hti, hts⟩ := Hat.out k e he
        obtain rfl := Ha.out (by omega)
        have c0 : ∀ V, Old wr V → V.cell? ⟨b, off + k * 4, none⟩ = some (.string e.term) := fun V o => (hcs V (ho.trans o)).1
        have c1 : ∀ V, Old wr V → V.cell? ⟨b, off + k * 4 + 1, none⟩ = some (.string e.sub) := fun V o => (hcs V (ho.trans o)).2.1
        have c2' : ∀ V, Old wr V → V.cell? ⟨b, off + k * 4 + 2, none⟩ = some (.slice a2 e.topics.length c2) := fun V o => (hcs V (ho.trans o)).2.2.1
        have c3' : ∀ V, Old wr V → V.cell? ⟨b, off + k * 4 + 3, none⟩ = some (.slice a3 e.sees.length c3) := fun V o => (hcs V (ho.trans o)).2.2.2
        obtain ⟨z1, z2, z3, z4, z5, z6⟩ := Hsz.out e (List.mem_of_getElem? he)
        have hsee := seesN_succ he
        have hsl := seesN_le l (k + 1)
        have He := Lib.hid he
        have Hsee := Lib.hid hsee
        have Hti := Lib.hid hti
        have Hts := Lib.hid hts
        have Hz := Lib.hid (And.intro z3 z4)
        clear hcs hti hts he
        go_upto_region 7 with fail
        have h9 := heap_alloc_new wr (.cells #[.string e.term, .string e.sub, .slice a2 e.topics.length c2, .slice a3 e.sees.length c3] 45)
        have oA : Old wr (wr.alloc (.cells #[.string e.term, .string e.sub, .slice a2 e.topics.length c2, .slice a3 e.sees.length c3] 45)) := (Old.refl wr).alloc _
        have hgf : Hid (wr.heap.size ≠ fb) := Lib.hid (by have := HM.out.lt; omega)
        have HMA := Lib.hid (MemoN.old HM.out oA)
        have HLA := Lib.hid (HLO.out.old oA)
        have hoA := ho.trans oA
        clear c0 c1 c2' c3' oA HM HLO
        generalize wr.alloc (.cells #[.string e.term, .string e.sub, .slice a2 e.topics.length c2, .slice a3 e.sees.length c3] 45) = wB at *
        generalize wr.heap.size = g9 at *
        have H9 := Lib.hid h9
        have d0 := later (show wB.cell? ⟨g9, 0, none⟩ = some (.string e.term) from cells_at (i := 0) h9 rfl)
        have d1 := later (show wB.cell? ⟨g9, 1, none⟩ = some (.string e.sub) from cells_at (i := 1) h9 rfl)
        have d2 := later (show wB.cell? ⟨g9, 2, none⟩ = some (.slice a2 e.topics.length c2) from cells_at (i := 2) h9 rfl)
        have d3 := later (show wB.cell? ⟨g9, 3, none⟩ = some (.slice a3 e.sees.length c3) from cells_at (i := 3) h9 rfl)
        have HAl := Lib.hid (alone_any e a2 a3 c2 c3 topics w wB fb n Hti.out Hts.out hoA HT.out (Nat.le_of_eq Hfb.out) HMA.out (by omega) ⟨by omega, z5⟩ z1 z2 z6)
        obtain ⟨z, hz⟩ : ∃ z, aloneK e topics = z := ⟨_, rfl⟩
        rw [hz] at HAl
        have Hzz := Lib.hid hz
        clear h9 hz
        by_cases hz0 : z = 0
        · subst hz0
          cases k with
          | zero =>
            have Hg : Hid (∀ (i : Nat) (o : En), i < 0 + 1 → l[i]? = some o → oneK l topics i o = 0) := Lib.hid fun i o hi ho => by
              obtain rfl : i = 0 := by omega
              obtain rfl := Option.some.inj (He.out.symm.trans ho)
              exact oneK_first Hzz.out
            go_wp2_with (go_at_call 54; refine HAl.out.mono ?_; rintro e' w2 ⟨rfl, hM2, o2⟩)
            have HM2 := Lib.hid hM2
            have HL2 := Lib.hid (HLA.out.trans o2)
            clear hM2 o2
            go_roundw
            case rel => exact ⟨0 + 1, n + 2 * e.sees.length, by go_num, by omega, by have := Hsee.out; omega, HM2.out, Hg.out, HL2.out⟩
            case measure => simp [intOf]; omega
          | succ m =>
            have hm1 : ¬ ((m : Int) + 1 = 0) := by omega
            have hmb : ((m : Int) + 1 == 0) = false := by simpa using hm1
            go_upto_region 11 with (go_at_call 54; refine HAl.out.mono ?_; rintro e' w2 ⟨rfl, hM2, o2⟩)
            have H92 := Lib.hid (obj_but H9.out o2 hgf.out)
            obtain ⟨o, ho'⟩ : ∃ o, l[m]? = some o := ⟨_, List.getElem?_eq_getElem (by omega)⟩
            obtain ⟨a4, c4, a5, c5, hcs, _, _⟩ := Hat.out m o ho'
            obtain ⟨y1, y2, y3, y4, _, _⟩ := Hsz.out o (List.mem_of_getElem? ho')
            have Ho' := Lib.hid ho'
            have Hy := Lib.hid (And.intro y3 y4)
            have HLO2 := Lib.hid (HLA.out.trans o2)
            have ho2 := HLO2.out.base HoA.out (Nat.le_of_eq Hfb.out)
            have hbase := Hfb.out
            have tA : ∀ V, OldBut fb w2 V → V.cell? ⟨b, off + m * 4, none⟩ = some (.string o.term) := fun V oV => (hcs V (oV.base ho2 (Nat.le_of_eq hbase))).1
            have tB : ∀ V, OldBut fb w2 V → V.cell? ⟨b, off + m * 4 + 1, none⟩ = some (.string o.sub) := fun V oV => (hcs V (oV.base ho2 (Nat.le_of_eq hbase))).2.1
            have tC : ∀ V, OldBut fb w2 V → V.cell? ⟨g9, 0, none⟩ = some (.string e.term) := fun V oV => cells_at (i := 0) (obj_but H92.out oV hgf.out) rfl
            have tD : ∀ V, OldBut fb w2 V → V.cell? ⟨g9, 1, none⟩ = some (.string e.sub) := fun V oV => cells_at (i := 1) (obj_but H92.out oV hgf.out) rfl
            have hw1 : IntKind.i64.wrap (m : Int) = m := IntWalk.i64_in _ (by omega)
            have hw2 : IntKind.i64.wrap ((m : Int) + 1 - 1) = m := by rw [show (m : Int) + 1 - 1 = m from by omega]; exact hw1
            have hn0 : (0 : Int) ≤ m := by omega
            have hn1 : (m : Int) < l.length := by omega
            have HC := Lib.hid (fun (s : ByteArray) (hs : s.size ≤ 4194304) (V : World) (F : ByteArray → Option ByteArray) (q : Nat) (oV : OldBut fb w2 V) (h : Memo V fb q F) (hq : q < 4611686018427387904) => of_any s w V fb q F (oV.base ho2 (Nat.le_of_eq hbase)) HT.out h hq hs)
            have hfl := hM2.lt
            have Hns := Lib.hid (fun V (oV : OldBut fb w2 V) => show V.heap.size ≠ fb by have := oV.size; omega)
            obtain ⟨F, hF⟩ := hM2
            have HF2 := Lib.hid hF
            have HM := Lib.hid (hF.old (Old.refl w2).drew)
            have HO := (OldBut.refl fb w2).drew
            have hk0 : n + 2 * e.sees.length < 4611686018427387904 := by omega
            have hk1 : n + 2 * e.sees.length + 1 < 4611686018427387904 := by omega
            have hk2 : n + 2 * e.sees.length + 1 + 1 < 4611686018427387904 := by omega
            have hk3 : n + 2 * e.sees.length + 1 + 1 + 1 < 4611686018427387904 := by omega
            clear hcs ho' o2 hF y3 y4 d0 d1 d2 d3 HAl
            go_cut [10, 11] (fun t u wy => ∃ g10 g11 : Nat, t = .pointer (some ⟨g10, 0, none⟩) ∧ u = .pointer (some ⟨g11, 0, none⟩) ∧ wy.heap[g10]? = some (.cells #[.string (foldS o.term), .string (foldS o.sub)] 89 (0, 0)) ∧ wy.heap[g11]? = some (.cells #[.string (foldS e.term), .string (foldS e.sub)] 89 (0, 0)) ∧ MemoN wy fb (n + 2 * e.sees.length + 4) ∧ OldBut fb w2 wy ∧ w2.heap.size ≤ g10 ∧ w2.heap.size ≤ g11)
            case first =>
              have HOa := Lib.hid (fun (o : Obj) => ((OldBut.refl fb w2).alloc o).drew)
              have HMa := Lib.hid (fun (o : Obj) => HF2.out.old (((Old.refl w2).alloc o).drew))
              have HOb := Lib.hid (fun (o o' : Obj) => (((OldBut.refl fb w2).alloc o).alloc o').drew)
              have HMb := Lib.hid (fun (o o' : Obj) => HF2.out.old ((((Old.refl w2).alloc o).alloc o').drew))
              clear HF2 Hat Ha Hsz HT hmm Hlong Hno He Hsee Hti Hts Hz Hzz HLA HMA H9 H92 Ho' Hy HLO2 HoA Hfb hk hn hlt hi hi1 hl1 hU hc1 hc2 hsee hsl hoA hfl hm1 hmb hgf hbase ho2 ho
              go_region_held3 (fun w' => OldBut fb w2 w') (first
                | with_reducible exact HO
                | with_reducible exact HO.alloc _
                | with_reducible exact (HO.alloc _).alloc _
                | with_reducible exact HOa.out _
                | with_reducible exact HOb.out _ _
                | (repeat (first | with_reducible exact HO | with_reducible refine OldBut.alloc ?_ _ | (with_reducible refine OldBut.setNew ?_ (by first | assumption | exact OldBut.sz HO | (have := OldBut.sz HO; simp; omega)) _ _)))
                | fail) (first
                | (go_at_call 48; first
                    | ((with_reducible refine (HC.out o.term y1 _ _ _ HO HM.out hk0).mono ?_); rintro e' w5 ⟨rfl, ⟨F5, hM5, _, _⟩, o5⟩; replace HO := HO.trans o5; replace HM := Lib.hid hM5; clear hM5 o5)
                    | ((with_reducible refine (HC.out o.term y1 _ _ _ (HOa.out _) (HMa.out _) hk0).mono ?_); rintro e' w5 ⟨rfl, ⟨F5, hM5, _, _⟩, o5⟩; have hq1 := Hns.out _ (OldBut.refl fb w2); have hl1 := Nat.le_refl w2.heap.size; have q1 := obj_but (w := (w2.alloc _).drew) (heap_alloc_new w2 _) o5 hq1; replace HO := (HOa.out _).trans o5; replace HM := Lib.hid hM5; clear hM5 o5)
                    | ((with_reducible refine (HC.out o.term y1 _ _ _ (HOb.out _ _) (HMb.out _ _) hk0).mono ?_); rintro e' w5 ⟨rfl, ⟨F5, hM5, _, _⟩, o5⟩; have hq1 := Hns.out _ (OldBut.refl fb w2); have hl1 := Nat.le_refl w2.heap.size; have q1 := obj_but (w := ((w2.alloc _).alloc _).drew) (obj_old (heap_alloc_new w2 _) (((Old.refl _).alloc _).drew)) o5 hq1; have h12 := two_ne (OldBut.refl fb w2) (.cells #[.string ⟨#[]⟩, .string ⟨#[]⟩] 89); have hq2 := Hns.out _ ((OldBut.refl fb w2).alloc (.cells #[.string ⟨#[]⟩, .string ⟨#[]⟩] 89)); have q2 := obj_but (w := ((w2.alloc _).alloc _).drew) (heap_alloc_new (w2.alloc (.cells #[.string ⟨#[]⟩, .string ⟨#[]⟩] 89)) _) o5 hq2; have e2 := two_sz (OldBut.refl fb w2) (.cells #[.string ⟨#[]⟩, .string ⟨#[]⟩] 89); have hl2 := Nat.le_succ w2.heap.size; rw [e2] at q2 hq2 h12; clear e2; replace HO := (HOb.out _ _).trans o5; replace HM := Lib.hid hM5; clear hM5 o5))
                | (go_at_call 48; first
                    | ((with_reducible refine (HC.out o.sub y2 _ _ _ HO HM.out hk1).mono ?_); rintro e' w5 ⟨rfl, ⟨F5, hM5, _, _⟩, o5⟩; (try replace q1 := obj_but q1 o5 hq1); (try replace q2 := obj_but q2 o5 hq2); replace HO := HO.trans o5; replace HM := Lib.hid hM5; clear hM5 o5)
                    | ((with_reducible refine (HC.out o.sub y2 _ _ _ (HO.alloc _) (HM.out.old ((Old.refl _).alloc _)) hk1).mono ?_); rintro e' w5 ⟨rfl, ⟨F5, hM5, _, _⟩, o5⟩; (first
                      | (have h12 := Nat.ne_of_lt (Array.getElem?_eq_some_iff.1 q1).1; replace q1 := obj_but (obj_old q1 ((Old.refl _).alloc _)) o5 hq1; have hq2 := Hns.out _ HO; have hl2 := HO.size; have q2 := obj_but (heap_alloc_new _ _) o5 hq2)
                      | (have hq1 := Hns.out _ HO; have hl1 := HO.size; have q1 := obj_but (heap_alloc_new _ _) o5 hq1)); replace HO := (HO.alloc _).trans o5; replace HM := Lib.hid hM5; clear hM5 o5)
                    | ((with_reducible refine (HC.out o.sub y2 _ _ _ ((HO.alloc _).alloc _) (HM.out.old (((Old.refl _).alloc _).alloc _)) hk1).mono ?_); rintro e' w5 ⟨rfl, ⟨F5, hM5, _, _⟩, o5⟩; have hq1 := Hns.out _ HO; have hl1 := HO.size; have q1 := obj_but (obj_old (heap_alloc_new _ _) ((Old.refl _).alloc _)) o5 hq1; have h12 := two_ne HO (.cells #[.string ⟨#[]⟩, .string ⟨#[]⟩] 89); have hq2 := Hns.out _ (HO.alloc (.cells #[.string ⟨#[]⟩, .string ⟨#[]⟩] 89)); have q2 := obj_but (heap_alloc_new _ _) o5 hq2; have e2 := two_sz HO (.cells #[.string ⟨#[]⟩, .string ⟨#[]⟩] 89); have hl2 := Nat.le_trans HO.size (Nat.le_succ _); rw [e2] at q2 hq2 h12; clear e2; replace HO := ((HO.alloc _).alloc _).trans o5; replace HM := Lib.hid hM5; clear hM5 o5))
                | (go_at_call 48; first
                    | ((with_reducible refine (HC.out e.term z1 _ _ _ HO HM.out hk2).mono ?_); rintro e' w5 ⟨rfl, ⟨F5, hM5, _, _⟩, o5⟩; (try replace q1 := obj_but q1 o5 hq1); (try replace q2 := obj_but q2 o5 hq2); replace HO := HO.trans o5; replace HM := Lib.hid hM5; clear hM5 o5)
                    | ((with_reducible refine (HC.out e.term z1 _ _ _ (HO.alloc _) (HM.out.old ((Old.refl _).alloc _)) hk2).mono ?_); rintro e' w5 ⟨rfl, ⟨F5, hM5, _, _⟩, o5⟩; (first
                      | (have h12 := Nat.ne_of_lt (Array.getElem?_eq_some_iff.1 q1).1; replace q1 := obj_but (obj_old q1 ((Old.refl _).alloc _)) o5 hq1; have hq2 := Hns.out _ HO; have hl2 := HO.size; have q2 := obj_but (heap_alloc_new _ _) o5 hq2)
                      | (have hq1 := Hns.out _ HO; have hl1 := HO.size; have q1 := obj_but (heap_alloc_new _ _) o5 hq1)); replace HO := (HO.alloc _).trans o5; replace HM := Lib.hid hM5; clear hM5 o5)
                    | ((with_reducible refine (HC.out e.term z1 _ _ _ ((HO.alloc _).alloc _) (HM.out.old (((Old.refl _).alloc _).alloc _)) hk2).mono ?_); rintro e' w5 ⟨rfl, ⟨F5, hM5, _, _⟩, o5⟩; have hq1 := Hns.out _ HO; have hl1 := HO.size; have q1 := obj_but (obj_old (heap_alloc_new _ _) ((Old.refl _).alloc _)) o5 hq1; have h12 := two_ne HO (.cells #[.string ⟨#[]⟩, .string ⟨#[]⟩] 89); have hq2 := Hns.out _ (HO.alloc (.cells #[.string ⟨#[]⟩, .string ⟨#[]⟩] 89)); have q2 := obj_but (heap_alloc_new _ _) o5 hq2; have e2 := two_sz HO (.cells #[.string ⟨#[]⟩, .string ⟨#[]⟩] 89); have hl2 := Nat.le_trans HO.size (Nat.le_succ _); rw [e2] at q2 hq2 h12; clear e2; replace HO := ((HO.alloc _).alloc _).trans o5; replace HM := Lib.hid hM5; clear hM5 o5))
                | (go_at_call 48; first
                    | ((with_reducible refine (HC.out e.sub z2 _ _ _ HO HM.out hk3).mono ?_); rintro e' w5 ⟨rfl, ⟨F5, hM5, _, _⟩, o5⟩; (try replace q1 := obj_but q1 o5 hq1); (try replace q2 := obj_but q2 o5 hq2); replace HO := HO.trans o5; replace HM := Lib.hid hM5; clear hM5 o5; (try have u10 := later (cells_at (i := 0) q1 rfl)); (try have u11 := later (cells_at (i := 1) q1 rfl)); (try have u20 := later (cells_at (i := 0) q2 rfl)); (try have u21 := later (cells_at (i := 1) q2 rfl)); (try have v10 := frozen_later q1 0); (try have v11 := frozen_later q1 1); (try have v20 := frozen_later q2 0); (try have v21 := frozen_later q2 1); (try have n1 := Nat.ne_of_lt (Array.getElem?_eq_some_iff.1 q1).1); (try have n1' := n1.symm); (try have h12' := h12.symm))
                    | ((with_reducible refine (HC.out e.sub z2 _ _ _ (HO.alloc _) (HM.out.old ((Old.refl _).alloc _)) hk3).mono ?_); rintro e' w5 ⟨rfl, ⟨F5, hM5, _, _⟩, o5⟩; (first
                      | (have h12 := Nat.ne_of_lt (Array.getElem?_eq_some_iff.1 q1).1; replace q1 := obj_but (obj_old q1 ((Old.refl _).alloc _)) o5 hq1; have hq2 := Hns.out _ HO; have hl2 := HO.size; have q2 := obj_but (heap_alloc_new _ _) o5 hq2)
                      | (have hq1 := Hns.out _ HO; have hl1 := HO.size; have q1 := obj_but (heap_alloc_new _ _) o5 hq1)); replace HO := (HO.alloc _).trans o5; replace HM := Lib.hid hM5; clear hM5 o5; (try have u10 := later (cells_at (i := 0) q1 rfl)); (try have u11 := later (cells_at (i := 1) q1 rfl)); (try have u20 := later (cells_at (i := 0) q2 rfl)); (try have u21 := later (cells_at (i := 1) q2 rfl)); (try have v10 := frozen_later q1 0); (try have v11 := frozen_later q1 1); (try have v20 := frozen_later q2 0); (try have v21 := frozen_later q2 1); (try have n1 := Nat.ne_of_lt (Array.getElem?_eq_some_iff.1 q1).1); (try have n1' := n1.symm); (try have h12' := h12.symm))
                    | ((with_reducible refine (HC.out e.sub z2 _ _ _ ((HO.alloc _).alloc _) (HM.out.old (((Old.refl _).alloc _).alloc _)) hk3).mono ?_); rintro e' w5 ⟨rfl, ⟨F5, hM5, _, _⟩, o5⟩; have hq1 := Hns.out _ HO; have hl1 := HO.size; have q1 := obj_but (obj_old (heap_alloc_new _ _) ((Old.refl _).alloc _)) o5 hq1; have h12 := two_ne HO (.cells #[.string ⟨#[]⟩, .string ⟨#[]⟩] 89); have hq2 := Hns.out _ (HO.alloc (.cells #[.string ⟨#[]⟩, .string ⟨#[]⟩] 89)); have q2 := obj_but (heap_alloc_new _ _) o5 hq2; have e2 := two_sz HO (.cells #[.string ⟨#[]⟩, .string ⟨#[]⟩] 89); have hl2 := Nat.le_trans HO.size (Nat.le_succ _); rw [e2] at q2 hq2 h12; clear e2; replace HO := ((HO.alloc _).alloc _).trans o5; replace HM := Lib.hid hM5; clear hM5 o5; (try have u10 := later (cells_at (i := 0) q1 rfl)); (try have u11 := later (cells_at (i := 1) q1 rfl)); (try have u20 := later (cells_at (i := 0) q2 rfl)); (try have u21 := later (cells_at (i := 1) q2 rfl)); (try have v10 := frozen_later q1 0); (try have v11 := frozen_later q1 1); (try have v20 := frozen_later q2 0); (try have v21 := frozen_later q2 1); (try have n1 := Nat.ne_of_lt (Array.getElem?_eq_some_iff.1 q1).1); (try have n1' := n1.symm); (try have h12' := h12.symm)))
                | fail)
              all_goals
                (try go_wp2_with fail)
                go_meet
                refine ⟨_, _, rfl, rfl, ?_⟩
                first
                  | with_reducible exact box_meet1 HO HM.out (Nat.le_refl _)
                  | with_reducible exact box_meet1' HO HM.out (Nat.le_refl _)
                  | with_reducible exact box_meet2 q1 HO HM.out hl1 hq1 (Hns.out _ HO) (Nat.le_refl _) _ _ _ _
                  | with_reducible exact box_meet3 q1 HO HM.out hl1 hq1 (Nat.le_refl _) _ _
                  | with_reducible exact box_meet q1 q2 h12 HO HM.out hl1 hl2 hq1 hq2 (Nat.le_refl _) _ _ _ _
                  | with_reducible exact box_meet q2 q1 h12.symm HO HM.out hl2 hl1 hq2 hq1 (Nat.le_refl _) _ _ _ _
            case rest =>
              obtain ⟨g10, g11, rfl, rfl, h10, h11, hM5, hO5, hl10, hl11⟩ := hcut
              have HM5 := Lib.hid hM5
              have HO5 := Lib.hid hO5
              have HT5 := Lib.hid (HT.out.old (hO5.base ho2 (Nat.le_of_eq hbase)))
              have hgw : w2.heap.size ≤ wc.heap.size := hO5.size
              have r10 := later (show wc.cell? ⟨g10, 0, none⟩ = some (.string (foldS o.term)) from cells_at (i := 0) h10 rfl)
              have r11 := later (show wc.cell? ⟨g10, 1, none⟩ = some (.string (foldS o.sub)) from cells_at (i := 1) h10 rfl)
              have r20 := later (show wc.cell? ⟨g11, 0, none⟩ = some (.string (foldS e.term)) from cells_at (i := 0) h11 rfl)
              have r21 := later (show wc.cell? ⟨g11, 1, none⟩ = some (.string (foldS e.sub)) from cells_at (i := 1) h11 rfl)
              have rA := later (show wc.cell? ⟨b, off + m * 4, none⟩ = some (.string o.term) from tA _ hO5)
              have rC := later (show wc.cell? ⟨g9, 0, none⟩ = some (.string e.term) from tC _ hO5)
              have HOr := Lib.hid (fun (V : OldW wc) => order_any (foldS o.term, foldS o.sub) (foldS e.term, foldS e.sub) V.w' (HT5.out.old V.old) Hy.out.1 Hy.out.2 Hz.out.1 Hz.out.2)
              have Hpair : Hid (pairK o e ↔ (cmpP (foldS o.term, foldS o.sub) (foldS e.term, foldS e.sub) < 0 ∧ ¬ (foldS o.term = foldS e.term ∧ ¬ o.term = e.term))) := Lib.hid Iff.rfl
              dsimp only at HOr
              obtain ⟨c, hc⟩ : ∃ c, cmpP (foldS o.term, foldS o.sub) (foldS e.term, foldS e.sub) = c := ⟨_, rfl⟩
              rw [hc] at HOr Hpair
              clear tA tB tC tD HC Hns HM HO hk0 hk1 hk2 hk3 hM5 hO5 hc h10 h11
              obtain ⟨p1, hp1⟩ : ∃ x, foldS o.term = x := ⟨_, rfl⟩
              obtain ⟨p2, hp2⟩ : ∃ x, foldS o.sub = x := ⟨_, rfl⟩
              obtain ⟨p3, hp3⟩ : ∃ x, foldS e.term = x := ⟨_, rfl⟩
              obtain ⟨p4, hp4⟩ : ∃ x, foldS e.sub = x := ⟨_, rfl⟩
              rw [hp1, hp2, hp3, hp4] at HOr
              rw [hp1] at r10
              rw [hp2] at r11
              rw [hp3] at r20
              rw [hp4] at r21
              rw [hp1, hp3] at Hpair
              clear hp1 hp2 hp3 hp4
              go_upto_region 12 with fail
              go_cut [90] (fun t wy => (∃ q : Bool, t = .bool q ∧ (q = true ↔ ¬ pairK o e)) ∧ Old wc wy)
              case first =>
                by_cases hc0 : 0 ≤ c
                · have Hq : Hid (¬ pairK o e) := Lib.hid fun h => by have := (Hpair.out.1 h).1; omega
                  clear Hpair
                  refine wp_region_old (Old.refl _) (by kernel_rfl) (by kernel_rfl) ?_
                  repeat (go_big_quiet_step (first | with_reducible exact Calls.in_old (HOr.out _) | fail))
                  refine wpQuiet_nil ?_
                  rintro ⟨wq, hq⟩
                  dsimp only
                  (try go_wp2_with fail)
                  go_meet
                  exact ⟨⟨true, rfl, by simp [Hq.out]⟩, hq⟩
                · by_cases hpe : p1 = p3
                  · have hpb : (p1.toList == p3.toList) = true := by rw [str_beq]; simpa using hpe
                    by_cases hte : o.term = e.term
                    · have Hq : Hid (pairK o e) := Lib.hid (Hpair.out.2 ⟨by omega, fun h => h.2 hte⟩)
                      have htb : (o.term.toList == e.term.toList) = true := by rw [str_beq]; simpa using hte
                      clear Hpair hpe hte
                      refine wp_region_old (Old.refl _) (by kernel_rfl) (by kernel_rfl) ?_
                      repeat (go_big_quiet_step (first | with_reducible exact Calls.in_old (HOr.out _) | fail))
                      refine wpQuiet_nil ?_
                      rintro ⟨wq, hq⟩
                      dsimp only
                      (try go_wp2_with fail)
                      go_meet
                      exact ⟨⟨false, rfl, by simp [Hq.out]⟩, hq⟩
                    · have Hq : Hid (¬ pairK o e) := Lib.hid fun h => (Hpair.out.1 h).2 ⟨hpe, hte⟩
                      have htb : (o.term.toList == e.term.toList) = false := by rw [str_beq]; simpa using hte
                      clear Hpair hpe hte
                      refine wp_region_old (Old.refl _) (by kernel_rfl) (by kernel_rfl) ?_
                      repeat (go_big_quiet_step (first | with_reducible exact Calls.in_old (HOr.out _) | fail))
                      refine wpQuiet_nil ?_
                      rintro ⟨wq, hq⟩
                      dsimp only
                      (try go_wp2_with fail)
                      go_meet
                      exact ⟨⟨true, rfl, by simp [Hq.out]⟩, hq⟩
                  · have hpb : (p1.toList == p3.toList) = false := by rw [str_beq]; simpa using hpe
                    have Hq : Hid (pairK o e) := Lib.hid (Hpair.out.2 ⟨by omega, fun h => hpe h.1⟩)
                    clear Hpair hpe
                    refine wp_region_old (Old.refl _) (by kernel_rfl) (by kernel_rfl) ?_
                    repeat (go_big_quiet_step (first | with_reducible exact Calls.in_old (HOr.out _) | fail))
                    refine wpQuiet_nil ?_
                    rintro ⟨wq, hq⟩
                    dsimp only
                    (try go_wp2_with fail)
                    go_meet
                    exact ⟨⟨false, rfl, by simp [Hq.out]⟩, hq⟩
              case rest =>
                rename_i wc1
                obtain ⟨⟨q, rfl, hq⟩, hoc⟩ := hcut
                have Hq := Lib.hid hq
                have Hoc := Lib.hid hoc
                clear hq hoc r10 r11 r20 r21 rA rC HOr Hpair
                cases q with
                | true =>
                  have Hr : Hid (CheckK l topics ((m + 1 : Nat) : Int) 31) := Lib.hid (by
                    have h31 := oneK_form Hzz.out Ho'.out (Hq.out.1 rfl)
                    have := CheckK_one Hlong.out He.out (by rw [h31]; decide) Hno.out
                    rw [h31] at this
                    exact this)
                  go_wp2_with fail
                  go_ret2
                  exact ⟨⟨(m : Int) + 1, 31, rfl, by have := Hr.out; push_cast at this; exact this⟩, (HO5.out.base ho2 (Nat.le_of_eq hbase)).trans Hoc.out⟩
                | false =>
                  have Hg : Hid (∀ (i : Nat) (u : En), i < m + 1 + 1 → l[i]? = some u → oneK l topics i u = 0) := Lib.hid fun i u hi hu => by
                    rcases Nat.lt_or_ge i (m + 1) with h | h
                    · exact Hno.out i u h hu
                    · obtain rfl : i = m + 1 := by omega
                      obtain rfl := Option.some.inj (He.out.symm.trans hu)
                      exact oneK_pair Hzz.out Ho'.out (Classical.byContradiction fun h => by have := Hq.out.2 h; cases this)
                  go_wp2_with fail
                  go_roundw
                  case rel => exact ⟨m + 1 + 1, n + 2 * e.sees.length + 4, by go_num, by omega, by have := Hsee.out; omega, MemoN.old HM5.out Hoc.out, Hg.out, (HLO2.out.trans HO5.out).old Hoc.out⟩
                  case measure => simp [intOf]; omega
        · have Hr : Hid (CheckK l topics k z) := Lib.hid (by
            have h1 : ¬ oneK l topics k e = 0 := by rw [oneK_alone (by rw [Hzz.out]; exact hz0), Hzz.out]; exact hz0
            have := CheckK_one Hlong.out He.out h1 Hno.out
            rw [oneK_alone (by rw [Hzz.out]; exact hz0), Hzz.out] at this
            exact this)
          have hzb : (z != 0) = true := by simpa using hz0
          go_wp2_with (go_at_call 54; refine HAl.out.mono ?_; rintro e' w2 ⟨rfl, hM2, o2⟩)
          have HL2 := Lib.hid ((HLA.out.trans o2).base HoA.out (Nat.le_of_eq Hfb.out))
          go_ret2
          exact ⟨⟨k, z, rfl, Hr.out⟩, HL2.out⟩
      · obtain rfl : k = l.length := by omega
        have hi1 : ¬ (l.length : Int) < l.length := by omega
        have Hall : Hid (∀ (j : Nat) (o : En), l[j]? = some o → oneK l topics j o = 0) := Lib.hid fun j o hj => Hno.out j o (List.getElem?_eq_some_iff.1 hj).1 hj
        have Hsub : Hid (∀ e ∈ l, ¬ e.sees = [] → e.sub = noB) := Lib.hid fun e he hs => by
          obtain ⟨j, hj⟩ := List.getElem?_of_mem he
          exact aloneK_sub (oneK_aloneK (Hall.out j e hj)) hs
        have hsN := seesN_le l l.length
        have hn2 : n ≤ 3000000 := by omega
        clear Hno hn hsN
        go_upto_region 17 with fail
        have hH0 : MapV Tryz.prog 9 Value.string ((wr.alloc (.map #[] 0)).alloc (.map #[] 0)) wr.heap.size 0 (hasE l 0) := by
          rw [show hasE l 0 = fun _ => none from by funext t; simp [hasE]]
          exact (MapV.made _ _ _ _).old ((Old.refl _).alloc _)
        have hW0 : WS ((wr.alloc (.map #[] 0)).alloc (.map #[] 0)) ((wr.alloc (.map #[] 0)).alloc (.map #[] 0)) (wr.heap.size + 1) 0 (fun _ => .slice none 0 0) (wayE l 0) := (WS.made (wr.alloc (.map #[] 0)) (by simp) (by simp)).cong (by funext t; rfl)
        have hsI : ((wr.alloc (.map #[] 0)).alloc (.map #[] 0)).heap.size = wr.heap.size + 2 := by simp
        have HMI := Lib.hid (MemoN.old HM.out (((Old.refl wr).alloc (.map #[] 0)).alloc (.map #[] 0)))
        have HoI := Lib.hid ((ho.alloc (.map #[] 0)).alloc (.map #[] 0))
        have hfr := HM.out.lt
        have hws := HLO.out.size
        have hwA := HoA.out.size
        have HH0 := Lib.hid hH0
        have HW0 := Lib.hid hW0
        clear hH0 hW0 HM HLO ho
        generalize (wr.alloc (.map #[] 0)).alloc (.map #[] 0) = wI at *
        obtain ⟨hb', hhb⟩ : ∃ x, wr.heap.size = x := ⟨_, rfl⟩
        rw [hhb] at HH0 HW0 ⊢
        obtain ⟨wb, hwb⟩ : ∃ x, hb' + 1 = x := ⟨_, rfl⟩
        rw [hwb] at HW0 ⊢
        have Hpos : Hid (fb < hb' ∧ hb' + 1 = wb ∧ wI.heap.size = wb + 1 ∧ w.heap.size ≤ fb) := Lib.hid (by have := Hfb.out; omega)
        clear hhb hwb hsI hfr hws hwA
        go_wp2_with fail
        go_loopw [97] (fun j wx => ∃ (k n2 nH nW : Nat) (V : ByteArray → Value), j = .int .i64 k ∧ k ≤ l.length ∧ n2 ≤ n + 3 * seesN l k + k ∧ nH ≤ k ∧ nW ≤ seesN l k ∧ MemoN wx fb n2 ∧ MapV Tryz.prog 9 Value.string wx hb' nH (hasE l k) ∧ WS wI wx wb nW V (wayE l k) ∧ Old w wx ∧ wI.heap.size ≤ wx.heap.size) (fun j _ => l.length - (intOf j).toNat)
        case atStart => exact ⟨0, n, 0, 0, _, rfl, Nat.zero_le _, by omega, Nat.zero_le _, Nat.zero_le _, HMI.out, HH0.out, HW0.out, HoI.out, Nat.le_refl _⟩
        case round =>
          clear HMI HH0 HW0 HoI
          obtain ⟨k, n2, nH, nW, V, rfl, hk, hn2', hnH, hnW, hM, hH, hW, ho, hsz⟩ := hrel
          have HM := Lib.hid hM
          have HH := Lib.hid hH
          have HW := Lib.hid hW
          have Ho := Lib.hid ho
          clear hM hH hW
          by_cases hlt : k < l.length
          · have hi1 : (k : Int) < l.length := by omega
            obtain ⟨e, he⟩ : ∃ e, l[k]? = some e := ⟨_, List.getElem?_eq_getElem hlt⟩
            obtain ⟨a2, c2, a3, c3, hcs, hti, hts⟩ := Hat.out k e he
            obtain rfl := Ha.out (by omega)
            have c0 : ∀ V, Old wr V → V.cell? ⟨b, off + k * 4, none⟩ = some (.string e.term) := fun V o => (hcs V (ho.trans o)).1
            have c1 : ∀ V, Old wr V → V.cell? ⟨b, off + k * 4 + 1, none⟩ = some (.string e.sub) := fun V o => (hcs V (ho.trans o)).2.1
            have c2' : ∀ V, Old wr V → V.cell? ⟨b, off + k * 4 + 2, none⟩ = some (.slice a2 e.topics.length c2) := fun V o => (hcs V (ho.trans o)).2.2.1
            have c3' : ∀ V, Old wr V → V.cell? ⟨b, off + k * 4 + 3, none⟩ = some (.slice a3 e.sees.length c3) := fun V o => (hcs V (ho.trans o)).2.2.2
            obtain ⟨z1, z2, z3, z4, z5, z6⟩ := Hsz.out e (List.mem_of_getElem? he)
            have hsee := seesN_succ he
            have hsl := seesN_le l (k + 1)
            have hlen := wayE_length l k (foldS e.term) hk
            have Hsee := Lib.hid hsee
            have Hts := Lib.hid hts
            have Hz6 := Lib.hid z6
            have HhE := Lib.hid (hasE_succ he)
            have HwE := Lib.hid (wayE_all he (Hsub.out e (List.mem_of_getElem? he)))
            clear hcs hti hts he z6
            go_upto_region 20 with fail
            have h9 := heap_alloc_new wr (.cells #[.string e.term, .string e.sub, .slice a2 e.topics.length c2, .slice a3 e.sees.length c3] 45)
            have oA : Old wr (wr.alloc (.cells #[.string e.term, .string e.sub, .slice a2 e.topics.length c2, .slice a3 e.sees.length c3] 45)) := (Old.refl wr).alloc _
            have HMA := Lib.hid (MemoN.old HM.out oA)
            have HHA := Lib.hid (HH.out.old oA)
            have HWA := Lib.hid (HW.out.old oA)
            have hoA := ho.trans oA
            have hszA := Nat.le_trans hsz oA.size
            have hgp : Hid (wr.heap.size ≠ fb ∧ wr.heap.size ≠ hb' ∧ wr.heap.size ≠ wb ∧ wr.heap.size < (wr.alloc (.cells #[.string e.term, .string e.sub, .slice a2 e.topics.length c2, .slice a3 e.sees.length c3] 45)).heap.size) := Lib.hid (by
              have := Hpos.out
              refine ⟨by omega, by omega, by omega, by simp⟩)
            have hVg : Hid (∀ t, (V t).ownBlock ≠ some wr.heap.size) := Lib.hid fun t e' => by
              have := (World.ownsRow.lt (HW.out.row t) _ e').2
              omega
            clear c0 c1 c2' c3' oA HM HH HW ho Ho hsz
            generalize wr.alloc (.cells #[.string e.term, .string e.sub, .slice a2 e.topics.length c2, .slice a3 e.sees.length c3] 45) = wB at *
            generalize wr.heap.size = g9 at *
            have H9 := Lib.hid h9
            have d0 := later (show wB.cell? ⟨g9, 0, none⟩ = some (.string e.term) from cells_at (i := 0) h9 rfl)
            have HF := HMA.out
            obtain ⟨F, hF⟩ := HF
            have HC := Lib.hid (of_any e.term w wB fb n2 F hoA HT.out hF (by omega) z1)
            have hkt := Lib.hid (keyK (s := foldS e.term) (by omega))
            clear h9 hF
            go_upto_region 21 with (first
              | (go_at_call 48; refine HC.out.mono ?_; rintro e' w2 ⟨rfl, ⟨F2, hM2, _, _⟩, o2⟩; have HM2 := Lib.hid (show MemoN w2 fb (n2 + 1) from ⟨F2, hM2⟩); have HH2 := Lib.hid (HHA.out.block (o2.block hb' HHA.out.lt (by have := Hpos.out; omega))); have HW2 := Lib.hid (HWA.out.but o2 (by have := Hpos.out; omega) (by have := Hpos.out; omega)); have H92 := Lib.hid (obj_but H9.out o2 hgp.out.1); have Ho2 := Lib.hid (o2.base hoA Hpos.out.2.2.2); have hs2 := Nat.le_trans hszA o2.size; clear hM2 o2)
              | (refine wpList_update_mv rfl _ _ _ _ rfl 9 3 (string_keyed Tryz.underlying9) Value.string (fun _ _ => str_kv) Tryz.underlying54 hb' nH _ rfl HH2.out (by omega) (foldS e.term) _ rfl hkt.out (.int .i64 1) rfl ?_; intro w3 hm3 hg3))
            have hk3 := KeptX.of_grown (X := fun g => g = hb') hg3 (fun g e' => (Option.some.inj e').symm)
            have HM3 := Lib.hid (HM2.out.block (hk3.block fb HM2.out.lt (by have := Hpos.out; omega)))
            have HW3 := Lib.hid (HW2.out.kx hk3 (fun g e' => by have := Hpos.out; have : g = hb' := e'; exact ⟨by omega, by omega⟩))
            have H93 := Lib.hid (obj_grown H92.out hg3 (fun e' => hgp.out.2.1 (Option.some.inj e')))
            have Ho3 := Lib.hid (Ho2.out.grown hg3 fun g e' => by have := Option.some.inj e'; have := Hpos.out; omega)
            have hs3 := Nat.le_trans hs2 hg3.size
            have hm3' : MapV Tryz.prog 9 Value.string w3 hb' (nH + 1) (hasE l (k + 1)) := by rw [HhE.out]; exact hm3
            have HH3 := Lib.hid hm3'
            have t3 := later (show w3.cell? ⟨g9, 3, none⟩ = some (.slice a3 e.sees.length c3) from cells_at (i := 3) H93.out rfl)
            have hcn : e.sees.length ≤ 1000000 := by omega
            clear hm3 hm3' hg3 hk3 HM2 HH2 HW2 H92 Ho2 hs2 d0 HC H9 HMA HHA HWA hoA hszA
            obtain ⟨t, ht⟩ : ∃ t, foldS e.term = t := ⟨_, rfl⟩
            have HL0 : Hid (wayE l k = fun q => if q = t then wayE l k t ++ (e.sees.take 0).map foldS else wayE l k q) := Lib.hid (by
              funext q
              by_cases hq : q = t
              · rw [if_pos hq, hq]; simp
              · rw [if_neg hq])
            rw [HL0.out] at HW3
            rw [ht] at HwE hkt hlen
            have Ht := Lib.hid ht
            clear ht HL0
            go_wp2_with fail
            go_loopw [109] (fun j wx => ∃ (m n3 nW3 : Nat) (V3 : ByteArray → Value), j = .int .i64 m ∧ m ≤ e.sees.length ∧ n3 ≤ n2 + 1 + 3 * m ∧ nW3 ≤ nW + m ∧ MemoN wx fb n3 ∧ MapV Tryz.prog 9 Value.string wx hb' (nH + 1) (hasE l (k + 1)) ∧ WS wI wx wb nW3 V3 (fun q => if q = t then wayE l k t ++ (e.sees.take m).map foldS else wayE l k q) ∧ wx.heap[g9]? = some (.cells #[.string e.term, .string e.sub, .slice a2 e.topics.length c2, .slice a3 e.sees.length c3] 45 (0, 0)) ∧ (∀ t, (V3 t).ownBlock ≠ some g9) ∧ Old w wx ∧ wI.heap.size ≤ wx.heap.size) (fun j _ => e.sees.length - (intOf j).toNat)
            case atStart => exact ⟨0, n2 + 1, nW, V, rfl, Nat.zero_le _, Nat.le_refl _, Nat.le_refl _, HM3.out, HH3.out, HW3.out, H93.out, hVg.out, Ho3.out, hs3⟩
            case round =>
              clear HM3 HH3 HW3 H93 hVg Ho3 hs3 t3
              obtain ⟨m, n3, nW3, V3, rfl, hm, hn3, hnW3, hM, hH, hW, h9, hVg, ho, hsz⟩ := hrel
              have HM := Lib.hid hM
              have HH := Lib.hid hH
              have H9 := Lib.hid h9
              have HVg := Lib.hid hVg
              clear hM hH h9 hVg
              by_cases hlt3 : m < e.sees.length
              · have hi3 : (m : Int) < e.sees.length := by omega
                obtain ⟨x, hx⟩ : ∃ x, e.sees[m]? = some x := ⟨_, List.getElem?_eq_getElem hlt3⟩
                obtain ⟨hx1, hx2⟩ := Hz6.out x (List.mem_of_getElem? hx)
                obtain ⟨bt, ot, hat3, htx⟩ := Hts.out.at1
                obtain rfl := hat3 (by omega)
                have ck : ∀ V, Old wr V → V.cell? ⟨bt, ot + m, none⟩ = some (.string x) := fun V o => htx m x hx V (ho.trans o)
                obtain ⟨X, hX⟩ : ∃ X, wayE l k t ++ (e.sees.take m).map foldS = X := ⟨_, rfl⟩
                have hXl : X.length ≤ 1000000 := by rw [← hX, List.length_append, List.length_map, List.length_take]; omega
                have HX1 : Hid (wayE l k t ++ (e.sees.take (m + 1)).map foldS = X ++ [foldS x]) := Lib.hid (by rw [← hX, List.take_add_one, hx]; simp)
                rw [hX] at hW
                have HWS := Lib.hid hW
                clear hat3 htx hx hX hW
                go_upto_region 24 with fail
                clear ck
                obtain ⟨F, hF⟩ := HM.out
                have t0 := later (show wr.cell? ⟨g9, 0, none⟩ = some (.string e.term) from cells_at (i := 0) H9.out rfl)
                have HC1 := Lib.hid (of_any e.term w wr.drew fb n3 F ho.drew HT.out (hF.old (Old.refl wr).drew) (by omega) z1)
                have HC2 := Lib.hid (fun (V : World) (F2 : ByteArray → Option ByteArray) (oV : Old w V) (h : Memo V fb (n3 + 1) F2) => of_any e.term w V fb (n3 + 1) F2 oV HT.out h (by omega) z1)
                have HC3 := Lib.hid (fun (V : World) (F2 : ByteArray → Option ByteArray) (oV : Old w V) (h : Memo V fb (n3 + 1 + 1) F2) => of_any x w V fb (n3 + 1 + 1) F2 oV HT.out h (by omega) hx1)
                rw [Ht.out] at HC1 HC2
                clear hF
                go_region_held3 (fun w' => w'.cell? ⟨g9, 0, none⟩ = some (.string e.term)) (first
                  | exact t0 _ (Old.refl _).drew
                  | exact T6' _ (Old.refl _)
                  | exact T6' _ ((Old.refl _).alloc _)
                  | exact T4
                  | exact T5
                  | exact T6
                  | exact T7
                  | exact T8
                  | fail) (first
                  | (go_at_call 48; (with_reducible refine HC1.out.mono ?_); rintro e' w4 ⟨rfl, ⟨F', hM', _, _⟩, o'⟩; have HM4 := Lib.hid hM'; have HH4 := Lib.hid ((HH.out.old (Old.refl wr).drew).block (o'.block hb' (HH.out.old (Old.refl wr).drew).lt (by have := Hpos.out; omega))); have HW4 := Lib.hid ((HWS.out.old (Old.refl wr).drew).but o' (by have := Hpos.out; omega) (by have := Hpos.out; omega)); have H94 := Lib.hid (obj_but (obj_old H9.out (Old.refl wr).drew) o' hgp.out.1); have Ho4 := Lib.hid (o'.base ho.drew Hpos.out.2.2.2); have hs4 := Nat.le_trans hsz o'.size; have T4 : w4.cell? ⟨g9, 0, none⟩ = some (.string e.term) := cells_at (i := 0) H94.out rfl; have HL4 := HW4.out.lookW hkt.out; clear hM' o')
                  | (go_at_call 48; (with_reducible refine (HC2.out _ _ Ho4.out HM4.out).mono ?_); rintro e' w5 ⟨rfl, ⟨F', hM', _, _⟩, o'⟩; have HM5 := Lib.hid hM'; have HH5 := Lib.hid (HH4.out.block (o'.block hb' HH4.out.lt (by have := Hpos.out; omega))); have HW5 := Lib.hid (HW4.out.but o' (by have := Hpos.out; omega) (by have := Hpos.out; omega)); have H95 := Lib.hid (obj_but H94.out o' hgp.out.1); have Ho5 := Lib.hid (o'.base Ho4.out Hpos.out.2.2.2); have hs5 := Nat.le_trans hs4 o'.size; have T5 : w5.cell? ⟨g9, 0, none⟩ = some (.string e.term) := cells_at (i := 0) H95.out rfl; have HL5 := HW5.out.lookW hkt.out; clear hM' o')
                  | (go_at_call 48; (with_reducible refine (HC3.out _ _ Ho5.out HM5.out).mono ?_); rintro e' w6 ⟨rfl, ⟨F', hM', _, _⟩, o'⟩; have HM6 := Lib.hid hM'; have HH6 := Lib.hid (HH5.out.block (o'.block hb' HH5.out.lt (by have := Hpos.out; omega))); have HW6 := Lib.hid (HW5.out.but o' (by have := Hpos.out; omega) (by have := Hpos.out; omega)); have H96 := Lib.hid (obj_but H95.out o' hgp.out.1); have Ho6 := Lib.hid (o'.base Ho5.out Hpos.out.2.2.2); have hs6 := Nat.le_trans hs5 o'.size; have T6 : w6.cell? ⟨g9, 0, none⟩ = some (.string e.term) := cells_at (i := 0) H96.out rfl; have HL6 := HW6.out.lookW hkt.out; have T6' := later T6; clear hM' o')
                  | (refine step_append_at (c := txE) (w0 := wI) (by rfl) _ _ 43 (by rfl) 9 Tryz.underlying43 (.string ⟨#[]⟩) infoStrK rfl (Nat.zero_lt_succ 0) (V3 t) X [foldS x] (by rfl) ((show OwnS txE 9 wI w6 (V3 t) X from by simpa using HW6.out.row t).old ((Old.refl w6).alloc _)) _ (by rfl) (Recs.oneAt (c := txE) w6 9 (foldS x) rfl) (Nat.zero_lt_succ 0) (by simp; omega) (by simp; omega) (Nat.le_trans hs6 (by simp)) ?_; intro g5 cp5 w7 hown5 hg5 hat5 hlt5; obtain ⟨w8, hrun8, hW8, hg8⟩ := (HW6.out.old ((Old.refl w6).alloc (.cells (txE.enc (foldS x)).toArray 9))).add hx2 hown5 hg5 hat5 hkt.out (by omega); have H97 := Lib.hid (obj_grown (obj_old H96.out ((Old.refl w6).alloc _)) hg5 (fun e' => HVg.out t e'.symm)); have H98 := Lib.hid (obj_grown H97.out hg8 (fun e' => hgp.out.2.2.1 (Option.some.inj e'))); have T7 : w7.cell? ⟨g9, 0, none⟩ = some (.string e.term) := cells_at (i := 0) H97.out rfl; have T8 : w8.cell? ⟨g9, 0, none⟩ = some (.string e.term) := cells_at (i := 0) H98.out rfl; have HW8 := Lib.hid hW8; have Hg5 := Lib.hid hg5; have Hg8 := Lib.hid hg8; have Hat5 := Lib.hid hat5; clear hown5 hg5 hat5 hlt5 hW8 hg8)
                  | fail)
                all_goals
                  have hrlt := fun g (e' : (V3 t).ownBlock = some g) => (World.ownsRow.lt (HW6.out.row t) g e').1
                  have hg59 : g5 ≠ g9 := by
                    rcases Hat5.out with e' | e'
                    · exact fun k => HVg.out t (k ▸ e')
                    · intro k
                      have h1 := (Array.getElem?_eq_some_iff.1 H96.out).1
                      have e2 : g5 = w6.heap.size + 1 := by simpa using e'
                      omega
                  have hk7 : KeptX (fun g => wI.heap.size ≤ g ∨ g = wb) w6 w8 := ((KeptX.of_old ((Old.refl w6).alloc _)).trans (KeptX.of_grown Hg5.out fun g e' => .inl (hrlt g e'))).trans (KeptX.of_grown Hg8.out fun g e' => .inr (Option.some.inj e').symm)
                  have HM8 := Lib.hid (show MemoN w8 fb (n3 + 1 + 1 + 1) from ⟨_, ⟨HM6.out.mp.block (hk7.block fb HM6.out.mp.lt (by have := Hpos.out; omega)), HM6.out.says⟩⟩)
                  have HH8 := Lib.hid (HH6.out.block (hk7.block hb' HH6.out.lt (by have := Hpos.out; omega)))
                  have Ho8 := Lib.hid (hk7.old Ho6.out (fun g e' => by have := Hpos.out; omega))
                  have hs8 := Nat.le_trans hs6 hk7.size
                  have HV8 : Hid (∀ t', (if t' = t then Value.slice (some ⟨g5, 0, none⟩) (X.length + 1) cp5 else V3 t').ownBlock ≠ some g9) := Lib.hid fun t' => by
                    by_cases h : t' = t
                    · rw [if_pos h]; exact fun e' => hg59 (Option.some.inj e')
                    · rw [if_neg h]; exact HVg.out t'
                  rw [← HX1.out] at HW8
                  clear hrlt hg59 hk7 Hg5 Hg8 Hat5 HM6 HH6 Ho6 hs6 HW6 H96 H97 hrun8 T4 T5 T6 T6' T7 T8 t0 HL4 HL5 HL6 HM4 HM5 HH4 HH5 HW4 HW5 H94 H95 Ho4 Ho5 hs4 hs5 HC1 HC2 HC3
                  go_wp2_with fail
                  go_roundw
                  case rel => exact ⟨m + 1, n3 + 1 + 1 + 1, nW3 + 1, _, by go_num, by omega, by omega, by omega, HM8.out, HH8.out, HW8.out, H98.out, HV8.out, Ho8.out, hs8⟩
                  case measure => simp [intOf]; omega
              · obtain rfl : m = e.sees.length := by omega
                have hi3 : ¬ (e.sees.length : Int) < e.sees.length := by omega
                rw [List.take_length, ← HwE.out] at hW
                have HWS := Lib.hid hW
                clear hW
                go_wp2_with fail
                go_roundw
                case rel => exact ⟨k + 1, n3, nH + 1, nW3, V3, by go_num, by omega, by have := Hsee.out; omega, by omega, by have := Hsee.out; omega, HM.out, HH.out, HWS.out, ho, hsz⟩
                case measure => simp [intOf]; omega
          · obtain rfl : k = l.length := by omega
            have hi1 : ¬ (l.length : Int) < l.length := by omega
            have hsN := seesN_le l l.length
            have HE : Hid ((fun a b => b ∈ wayE l l.length a) = edgeL l) := Lib.hid (by funext a b; exact propext wayE_edge)
            have HU : Hid (∀ t, ∀ x ∈ wayE l l.length t, x ∈ (l.flatMap En.sees).map foldS) := Lib.hid fun t x hx => by
              rw [mem_wayE] at hx
              obtain ⟨i, e, _, he, _, _, y, hy, rfl⟩ := hx
              exact List.mem_map.2 ⟨y, List.mem_flatMap.2 ⟨e, List.mem_of_getElem? he, hy⟩, rfl⟩
            have hn3 : n2 ≤ 10000000 := by omega
            clear hn2' hnH hnW hsN Ho
            go_wp2_with fail
            go_loopw [133] (fun j wx => ∃ (k n3 : Nat), j = .int .i64 k ∧ k ≤ l.length ∧ n3 ≤ n2 + 3 * seesN l k ∧ MemoN wx fb n3 ∧ MapV Tryz.prog 9 Value.string wx hb' nH (hasE l l.length) ∧ WS wI wx wb nW V (wayE l l.length) ∧ Old w wx ∧ (∀ (j : Nat) (o : En) (m : Nat) (u : ByteArray), j < k → l[j]? = some o → o.sees[m]? = some u → seeK l o u = 0)) (fun j _ => l.length - (intOf j).toNat)
            case atStart => exact ⟨0, n2, rfl, Nat.zero_le _, by omega, HM.out, HH.out, HW.out, ho, fun j o m u hj => absurd hj (Nat.not_lt_zero j)⟩
            case round =>
              clear HM HH HW ho hsz
              obtain ⟨k, n4, rfl, hk, hn4, hM, hH, hW, ho, hno⟩ := hrel
              have HM := Lib.hid hM
              have HH := Lib.hid hH
              have HW := Lib.hid hW
              have Hno := Lib.hid hno
              clear hM hH hW hno
              by_cases hlt : k < l.length
              · have hi2 : (k : Int) < l.length := by omega
                obtain ⟨e, he⟩ : ∃ e, l[k]? = some e := ⟨_, List.getElem?_eq_getElem hlt⟩
                obtain ⟨a2, c2, a3, c3, hcs, hti, hts⟩ := Hat.out k e he
                obtain rfl := Ha.out (by omega)
                have c0 : ∀ V, Old wr V → V.cell? ⟨b, off + k * 4, none⟩ = some (.string e.term) := fun V o => (hcs V (ho.trans o)).1
                have c1 : ∀ V, Old wr V → V.cell? ⟨b, off + k * 4 + 1, none⟩ = some (.string e.sub) := fun V o => (hcs V (ho.trans o)).2.1
                have c2' : ∀ V, Old wr V → V.cell? ⟨b, off + k * 4 + 2, none⟩ = some (.slice a2 e.topics.length c2) := fun V o => (hcs V (ho.trans o)).2.2.1
                have c3' : ∀ V, Old wr V → V.cell? ⟨b, off + k * 4 + 3, none⟩ = some (.slice a3 e.sees.length c3) := fun V o => (hcs V (ho.trans o)).2.2.2
                obtain ⟨z1, z2, z3, z4, z5, z6⟩ := Hsz.out e (List.mem_of_getElem? he)
                have hsee := seesN_succ he
                have hsl := seesN_le l (k + 1)
                have Hsee := Lib.hid hsee
                have Hts := Lib.hid hts
                have Hz6 := Lib.hid z6
                have He := Lib.hid he
                clear hcs hti hts he z6
                go_upto_region 30 with fail
                have h9 := heap_alloc_new wr (.cells #[.string e.term, .string e.sub, .slice a2 e.topics.length c2, .slice a3 e.sees.length c3] 45)
                have oA : Old wr (wr.alloc (.cells #[.string e.term, .string e.sub, .slice a2 e.topics.length c2, .slice a3 e.sees.length c3] 45)) := (Old.refl wr).alloc _
                have HMA := Lib.hid (MemoN.old HM.out oA)
                have HHA := Lib.hid (HH.out.old oA)
                have HWA := Lib.hid (HW.out.old oA)
                have hoA := ho.trans oA
                have hgp : Hid (wr.heap.size ≠ fb) := Lib.hid (by have := HM.out.lt; omega)
                clear c0 c1 c2' c3' oA HM HH HW ho
                generalize wr.alloc (.cells #[.string e.term, .string e.sub, .slice a2 e.topics.length c2, .slice a3 e.sees.length c3] 45) = wB at *
                generalize wr.heap.size = g9 at *
                have H9 := Lib.hid h9
                have d3 := later (show wB.cell? ⟨g9, 3, none⟩ = some (.slice a3 e.sees.length c3) from cells_at (i := 3) h9 rfl)
                have hcn : e.sees.length ≤ 1000000 := by omega
                clear h9
                go_wp2_with fail
                clear d3
                go_loopw [141] (fun j wx => ∃ (m n5 : Nat), j = .int .i64 m ∧ m ≤ e.sees.length ∧ n5 ≤ n4 + 3 * m ∧ MemoN wx fb n5 ∧ MapV Tryz.prog 9 Value.string wx hb' nH (hasE l l.length) ∧ WS wI wx wb nW V (wayE l l.length) ∧ wx.heap[g9]? = some (.cells #[.string e.term, .string e.sub, .slice a2 e.topics.length c2, .slice a3 e.sees.length c3] 45 (0, 0)) ∧ Old w wx ∧ (∀ (i : Nat) (u : ByteArray), i < m → e.sees[i]? = some u → seeK l e u = 0)) (fun j _ => e.sees.length - (intOf j).toNat)
                case atStart => exact ⟨0, n4, rfl, Nat.zero_le _, Nat.le_refl _, HMA.out, HHA.out, HWA.out, H9.out, hoA, fun i u hi => absurd hi (Nat.not_lt_zero i)⟩
                case round =>
                  clear HMA HHA HWA H9 hoA
                  obtain ⟨m, n5, rfl, hm, hn5, hM, hH, hW, h9, ho, hno5⟩ := hrel
                  have HM := Lib.hid hM
                  have HH := Lib.hid hH
                  have HW := Lib.hid hW
                  have H9 := Lib.hid h9
                  have Hno5 := Lib.hid hno5
                  clear hM hH hW h9 hno5
                  by_cases hlt3 : m < e.sees.length
                  · have hi3 : (m : Int) < e.sees.length := by omega
                    obtain ⟨x, hx⟩ : ∃ x, e.sees[m]? = some x := ⟨_, List.getElem?_eq_getElem hlt3⟩
                    obtain ⟨hx1, hx2⟩ := Hz6.out x (List.mem_of_getElem? hx)
                    obtain ⟨bt, ot, hat3, htx⟩ := Hts.out.at1
                    obtain rfl := hat3 (by omega)
                    have ck : ∀ V, Old wr V → V.cell? ⟨bt, ot + m, none⟩ = some (.string x) := fun V o => htx m x hx V (ho.trans o)
                    have Hx := Lib.hid hx
                    have Hbad : Hid (∀ c : Int, seeK l e x = c → ¬ c = 0 → CheckK l topics k c) := Lib.hid fun c hc h0 => by
                      have := CheckK_see Hlong.out Hall.out He.out hx (by rw [hc]; exact h0) Hno.out Hno5.out
                      rw [hc] at this
                      exact this
                    have Hgo : Hid (seeK l e x = 0 → ∀ (i : Nat) (u : ByteArray), i < m + 1 → e.sees[i]? = some u → seeK l e u = 0) := Lib.hid fun h i u hi hu => by
                      rcases Nat.lt_or_ge i m with h2 | h2
                      · exact Hno5.out i u h2 hu
                      · obtain rfl : i = m := by omega
                        obtain rfl := Option.some.inj (hx.symm.trans hu)
                        exact h
                    obtain ⟨F, hF⟩ := HM.out
                    have HC := Lib.hid (of_any x w wr fb n5 F ho HT.out hF (by omega) hx1)
                    have hkx := Lib.hid (keyK (s := foldS x) (by omega))
                    clear hat3 htx hx hF
                    by_cases hhas : hasL l (foldS x)
                    · have HhV : Hid (hasE l l.length (foldS x) = some (.int .i64 1)) := Lib.hid (hasE_in hhas)
                      have Hhas := Lib.hid hhas
                      have HC2 := Lib.hid (fun (V : World) (F2 : ByteArray → Option ByteArray) (oV : Old w V) (h : Memo V fb (n5 + 1) F2) => of_any e.term w V fb (n5 + 1) F2 oV HT.out h (by omega) z1)
                      have HC3 := Lib.hid (fun (V : World) (F2 : ByteArray → Option ByteArray) (oV : Old w V) (h : Memo V fb (n5 + 1 + 1) F2) => of_any x w V fb (n5 + 1 + 1) F2 oV HT.out h (by omega) hx1)
                      have HRg := Lib.hid (fun (Z : World) (h : WS wI Z wb nW V (wayE l l.length)) => rings_any Z wb nW _ _ (foldS e.term) (foldS x) ((l.flatMap En.sees).map foldS) h.ways hx2 HU.out (by rw [List.length_map]; omega))
                      rw [HE.out] at HRg
                      clear hhas
                      go_upto_region 35 with (first
                        | (go_at_call 48; refine HC.out.mono ?_; rintro e' w2 ⟨rfl, ⟨F2, hM2, _, _⟩, o2⟩; have HM2 := Lib.hid hM2; have HH2 := Lib.hid (HH.out.block (o2.block hb' HH.out.lt (by have := Hpos.out; omega))); have HW2 := Lib.hid (HW.out.but o2 (by have := Hpos.out; omega) (by have := Hpos.out; omega)); have H92 := Lib.hid (obj_but H9.out o2 hgp.out); have Ho2 := Lib.hid (o2.base ho Hpos.out.2.2.2); clear hM2 o2)
                        | (refine wpList_lookup_mv rfl _ _ _ rfl 9 3 (string_keyed Tryz.underlying9) Value.string Tryz.underlying54 (.int .i64 0) zeroIntK hb' _ _ rfl HH2.out (foldS x) _ rfl hkx.out _ HhV.out ?_; rw [show (some (Value.int .i64 1)).getD (.int .i64 0) = .int .i64 1 from rfl]))
                      have t0 := later (show w2.cell? ⟨g9, 0, none⟩ = some (.string e.term) from cells_at (i := 0) H92.out rfl)
                      clear ck HC HhV
                      go_upto_if 160 with (first
                        | (go_at_call 48; (with_reducible refine (HC2.out _ _ Ho2.out HM2.out).mono ?_); rintro e' w4 ⟨rfl, ⟨F4, hM4, _, _⟩, o4⟩; have HM4 := Lib.hid hM4; have HH4 := Lib.hid (HH2.out.block (o4.block hb' HH2.out.lt (by have := Hpos.out; omega))); have HW4 := Lib.hid (HW2.out.but o4 (by have := Hpos.out; omega) (by have := Hpos.out; omega)); have H94 := Lib.hid (obj_but H92.out o4 hgp.out); have Ho4 := Lib.hid (o4.base Ho2.out Hpos.out.2.2.2); clear hM4 o4)
                        | (go_at_call 48; (with_reducible refine (HC3.out _ _ Ho4.out HM4.out).mono ?_); rintro e' w5 ⟨rfl, ⟨F5, hM5, _, _⟩, o5⟩; have HM5 := Lib.hid hM5; have HH5 := Lib.hid (HH4.out.block (o5.block hb' HH4.out.lt (by have := Hpos.out; omega))); have HW5 := Lib.hid (HW4.out.but o5 (by have := Hpos.out; omega) (by have := Hpos.out; omega)); have H95 := Lib.hid (obj_but H94.out o5 hgp.out); have Ho5 := Lib.hid (o5.base Ho4.out Hpos.out.2.2.2); clear hM5 o5)
                        | (go_at_call 55; (with_reducible refine (HRg.out _ HW5.out).mono ?_); rintro e' w6 ⟨⟨r, rfl, hr⟩, o6⟩))
                      have Hr := Lib.hid hr
                      clear hr HC2 HC3 HRg t0
                      cases r with
                      | true =>
                        have Hb := Lib.hid (Hbad.out 92 (seeK_ring Hhas.out (Hr.out.1 rfl)) (by decide))
                        go_wp2_with fail
                        go_ret2
                        exact ⟨⟨k, 92, rfl, Hb.out⟩, Ho5.out.trans o6⟩
                      | false =>
                        have Hg := Lib.hid (Hgo.out (seeK_ok Hhas.out (fun h => by have := Hr.out.2 h; cases this)))
                        go_wp2_with fail
                        go_roundw
                        case rel => exact ⟨m + 1, n5 + 1 + 1 + 1, by go_num, by omega, by omega, ⟨_, HM5.out.old o6⟩, HH5.out.old o6, HW5.out.old o6, obj_old H95.out o6, Ho5.out.trans o6, Hg.out⟩
                        case measure => simp [intOf]; omega
                    · have HhV : Hid (hasE l l.length (foldS x) = none) := Lib.hid (hasE_out hhas)
                      have Hb := Lib.hid (Hbad.out 91 (seeK_none hhas) (by decide))
                      clear hhas Hbad Hgo
                      go_wp2_with (first
                        | (go_at_call 48; refine HC.out.mono ?_; rintro e' w2 ⟨rfl, ⟨F2, hM2, _, _⟩, o2⟩; have HH2 := Lib.hid (HH.out.block (o2.block hb' HH.out.lt (by have := Hpos.out; omega))); have Ho2 := Lib.hid (o2.base ho Hpos.out.2.2.2); clear hM2 o2)
                        | (refine wpList_lookup_mv rfl _ _ _ rfl 9 3 (string_keyed Tryz.underlying9) Value.string Tryz.underlying54 (.int .i64 0) zeroIntK hb' _ _ rfl HH2.out (foldS x) _ rfl hkx.out _ HhV.out ?_; rw [show (none : Option Value).getD (.int .i64 0) = .int .i64 0 from rfl]))
                      go_ret2
                      exact ⟨⟨k, 91, rfl, Hb.out⟩, Ho2.out⟩
                  · obtain rfl : m = e.sees.length := by omega
                    have hi3 : ¬ (e.sees.length : Int) < e.sees.length := by omega
                    have Hg : Hid (∀ (j : Nat) (o : En) (m : Nat) (u : ByteArray), j < k + 1 → l[j]? = some o → o.sees[m]? = some u → seeK l o u = 0) := Lib.hid fun j o m u hj ho hu => by
                      rcases Nat.lt_or_ge j k with h | h
                      · exact Hno.out j o m u h ho hu
                      · obtain rfl : j = k := by omega
                        obtain rfl := Option.some.inj (He.out.symm.trans ho)
                        exact Hno5.out m u (List.getElem?_eq_some_iff.1 hu).1 hu
                    go_wp2_with fail
                    go_roundw
                    case rel => exact ⟨k + 1, n5, by go_num, by omega, by have := Hsee.out; omega, HM.out, HH.out, HW.out, ho, Hg.out⟩
                    case measure => simp [intOf]; omega
              · obtain rfl : k = l.length := by omega
                have hi2 : ¬ (l.length : Int) < l.length := by omega
                have Hr := Lib.hid (CheckK_ok (t := topics) Hlong.out Hall.out fun j o m u hj hu => Hno.out j o m u (List.getElem?_eq_some_iff.1 hj).1 hj hu)
                go_wp2_with fail
                go_ret2
                exact ⟨⟨0, 0, rfl, Hr.out⟩, ho⟩
end Go.Proofs.YtohngjkedhpikaaGreatDoor
