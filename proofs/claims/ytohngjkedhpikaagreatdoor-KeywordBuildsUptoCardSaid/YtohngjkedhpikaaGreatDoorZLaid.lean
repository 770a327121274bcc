/-
  KEYWORD, AW: awake: the chapter's first example.
-/
import Derived.Test.YtohngjkedhpikaaGreatDoorZKwV2
import Derived.Test.YtohngjkedhpikaaGreatDoorZKwBd
import Derived.Test.YtohngjkedhpikaaGreatDoorZKwT
import Derived.Test.YtohngjkedhpikaaGreatDoorZKwLF
import Derived.Test.YtohngjkedhpikaaGreatDoorZKwCk
import Derived.Test.YtohngjkedhpikaaGreatDoorZKwN
import Derived.Test.YtohngjkedhpikaaGreatDoorZKwF
import Derived.Test.YtohngjkedhpikaaGreatDoorZOpenD
import Derived.Test.YtohngjkedhpikaaGreatDoorZTextRefI
import Derived.Test.YtohngjkedhpikaaGreatDoorRows
import Derived.Test.YtohngjkedhpikaaGreatDoorZQuiet
import Derived.Lib.LaidIn
import Derived.Lib.LaidU8T
import Derived.Deep.DeepHandedRow
import Derived.Deep.DeepWitnessRowRef
import Derived.ProofKit
namespace Go.Proofs.YtohngjkedhpikaaGreatDoor
open Go.RowKit
attribute [local go_sem] Old.refl Old.alloc Old.drew Old.setCell OldW.old

theorem Recs.lit {α : Type} (c : Enc α) (w : World) (E : TypeId) (l : List α) {b : Nat} (hb : w.heap.size = b) {cs : Array Value} (hcs : cs.toList = c.all l) {n : Nat} (hn : l.length = n) (hl : n ≤ 1000000) :
    Recs c (w.alloc (.cells cs E)) (.slice (some ⟨b, 0, none⟩) n n) l := by
  subst hb; subst hn
  refine Recs.mk (t := l) (cap := l.length) (Nat.le_refl _) (by omega) fun j u hu => ?_
  rw [← hcs, Array.getElem?_toList] at hu
  rw [Nat.zero_add, cells_at (heap_alloc_new w _) hu]
theorem RetB.ok {w' : World} {ns nt : Nat} {M : List Mn} {e : Ending} {l : List En} (h : RetB w' ns nt M e) (hk : buildK ns nt M = .ok l) : ∃ u, e = .returned (.tuple #[u, .nilIface]) ∧ Ents w' u l := by
  rcases h with ⟨f, v, h1, _⟩ | ⟨l', u, h1, h2, h3⟩
  · rw [hk] at h1; cases h1
  · rw [hk] at h1
    injection h1 with h1
    subst h1
    exact ⟨u, h2, h3⟩
theorem ex_sz : ∀ m ∈ exM, m.term.size ≤ 4194304 ∧ m.sub.size ≤ 4194304 ∧ m.aim.size ≤ 4194304 := by
  intro m hm
  unfold exM at hm
  simp only [List.mem_cons, List.not_mem_nil, or_false] at hm
  rcases hm with rfl | rfl | rfl | rfl | rfl <;> decide
theorem ex_fs : ∀ m ∈ exM, (foldS m.term).size ≤ 4194304 ∧ (foldS m.sub).size ≤ 4194304 ∧ (foldS m.aim).size ≤ 4194304 := by
  intro m hm
  unfold exM at hm
  simp only [List.mem_cons, List.not_mem_nil, or_false] at hm
  rcases hm with rfl | rfl | rfl | rfl | rfl <;> simp only [f_kColor, f_kLinks, f_kPrint, f_kprint, f_kcolor, f_kColour, foldS_nil] <;> decide
/-- the example's sources, as the text lays them -/
theorem ex_srk (w : World) : Srk (((((w.alloc (.cells #[Value.string ⟨#[67, 111, 108, 111, 114]⟩, Value.string ⟨#[111, 102, 32, 108, 105, 110, 107, 115]⟩, Value.int .i64 0, Value.string ⟨#[80, 114, 105, 110, 116]⟩, Value.string ⟨#[]⟩, Value.int .i64 0] 40)).alloc (.cells #[Value.string ⟨#[112, 114, 105, 110, 116]⟩, Value.string ⟨#[]⟩, Value.int .i64 0, Value.string ⟨#[99, 111, 108, 111, 114]⟩, Value.string ⟨#[]⟩, Value.int .i64 0] 40)).alloc (.cells #[Value.string ⟨#[67, 111, 108, 111, 117, 114]⟩, Value.string ⟨#[99, 111, 108, 111, 114]⟩, Value.int .i64 0] 78)).alloc (.cells #[Value.int .i64 0, Value.string ⟨#[97]⟩, Value.string ⟨#[]⟩, Value.int .i64 0, Value.slice (some ⟨w.heap.size, 0, none⟩) 2 2, Value.slice none 0 0, Value.slice none 0 0, Value.int .i64 0, Value.int .i64 0, Value.string ⟨#[98]⟩, Value.string ⟨#[]⟩, Value.int .i64 0, Value.slice (some ⟨w.heap.size + 1, 0, none⟩) 2 2, Value.slice (some ⟨w.heap.size + 1 + 1, 0, none⟩) 1 1, Value.slice none 0 0, Value.int .i64 0] 38)).alloc (.cells #[Value.slice none 0 0, Value.slice (some ⟨w.heap.size + 1 + 1 + 1, 0, none⟩) 2 2] 33)) (Value.slice (some ⟨w.heap.size + 1 + 1 + 1 + 1, 0, none⟩) 1 1) exS := by
  have K0 := ((((Recs.lit kqE w 40 [⟨kColor, kLinks, 0⟩, ⟨kPrint, noB, 0⟩] rfl (cs := #[Value.string ⟨#[67, 111, 108, 111, 114]⟩, Value.string ⟨#[111, 102, 32, 108, 105, 110, 107, 115]⟩, Value.int .i64 0, Value.string ⟨#[80, 114, 105, 110, 116]⟩, Value.string ⟨#[]⟩, Value.int .i64 0]) rfl (n := 2) rfl (by omega)).old ((Old.refl _).alloc (.cells #[Value.string ⟨#[112, 114, 105, 110, 116]⟩, Value.string ⟨#[]⟩, Value.int .i64 0, Value.string ⟨#[99, 111, 108, 111, 114]⟩, Value.string ⟨#[]⟩, Value.int .i64 0] 40))).old ((Old.refl _).alloc (.cells #[Value.string ⟨#[67, 111, 108, 111, 117, 114]⟩, Value.string ⟨#[99, 111, 108, 111, 114]⟩, Value.int .i64 0] 78))).old ((Old.refl _).alloc (.cells #[Value.int .i64 0, Value.string ⟨#[97]⟩, Value.string ⟨#[]⟩, Value.int .i64 0, Value.slice (some ⟨w.heap.size, 0, none⟩) 2 2, Value.slice none 0 0, Value.slice none 0 0, Value.int .i64 0, Value.int .i64 0, Value.string ⟨#[98]⟩, Value.string ⟨#[]⟩, Value.int .i64 0, Value.slice (some ⟨w.heap.size + 1, 0, none⟩) 2 2, Value.slice (some ⟨w.heap.size + 1 + 1, 0, none⟩) 1 1, Value.slice none 0 0, Value.int .i64 0] 38))).old ((Old.refl _).alloc (.cells #[Value.slice none 0 0, Value.slice (some ⟨w.heap.size + 1 + 1 + 1, 0, none⟩) 2 2] 33))
  have K1 := (((Recs.lit kqE (w.alloc (.cells #[Value.string ⟨#[67, 111, 108, 111, 114]⟩, Value.string ⟨#[111, 102, 32, 108, 105, 110, 107, 115]⟩, Value.int .i64 0, Value.string ⟨#[80, 114, 105, 110, 116]⟩, Value.string ⟨#[]⟩, Value.int .i64 0] 40)) 40 [⟨kprint, noB, 0⟩, ⟨kcolor, noB, 0⟩] (b := w.heap.size + 1) (by simp) (cs := #[Value.string ⟨#[112, 114, 105, 110, 116]⟩, Value.string ⟨#[]⟩, Value.int .i64 0, Value.string ⟨#[99, 111, 108, 111, 114]⟩, Value.string ⟨#[]⟩, Value.int .i64 0]) rfl (n := 2) rfl (by omega)).old ((Old.refl _).alloc (.cells #[Value.string ⟨#[67, 111, 108, 111, 117, 114]⟩, Value.string ⟨#[99, 111, 108, 111, 114]⟩, Value.int .i64 0] 78))).old ((Old.refl _).alloc (.cells #[Value.int .i64 0, Value.string ⟨#[97]⟩, Value.string ⟨#[]⟩, Value.int .i64 0, Value.slice (some ⟨w.heap.size, 0, none⟩) 2 2, Value.slice none 0 0, Value.slice none 0 0, Value.int .i64 0, Value.int .i64 0, Value.string ⟨#[98]⟩, Value.string ⟨#[]⟩, Value.int .i64 0, Value.slice (some ⟨w.heap.size + 1, 0, none⟩) 2 2, Value.slice (some ⟨w.heap.size + 1 + 1, 0, none⟩) 1 1, Value.slice none 0 0, Value.int .i64 0] 38))).old ((Old.refl _).alloc (.cells #[Value.slice none 0 0, Value.slice (some ⟨w.heap.size + 1 + 1 + 1, 0, none⟩) 2 2] 33))
  have K2 := ((Recs.lit skE ((w.alloc (.cells #[Value.string ⟨#[67, 111, 108, 111, 114]⟩, Value.string ⟨#[111, 102, 32, 108, 105, 110, 107, 115]⟩, Value.int .i64 0, Value.string ⟨#[80, 114, 105, 110, 116]⟩, Value.string ⟨#[]⟩, Value.int .i64 0] 40)).alloc (.cells #[Value.string ⟨#[112, 114, 105, 110, 116]⟩, Value.string ⟨#[]⟩, Value.int .i64 0, Value.string ⟨#[99, 111, 108, 111, 114]⟩, Value.string ⟨#[]⟩, Value.int .i64 0] 40)) 78 [⟨kColour, kcolor, 0⟩] (b := w.heap.size + 1 + 1) (by simp) (cs := #[Value.string ⟨#[67, 111, 108, 111, 117, 114]⟩, Value.string ⟨#[99, 111, 108, 111, 114]⟩, Value.int .i64 0]) rfl (n := 1) rfl (by omega)).old ((Old.refl _).alloc (.cells #[Value.int .i64 0, Value.string ⟨#[97]⟩, Value.string ⟨#[]⟩, Value.int .i64 0, Value.slice (some ⟨w.heap.size, 0, none⟩) 2 2, Value.slice none 0 0, Value.slice none 0 0, Value.int .i64 0, Value.int .i64 0, Value.string ⟨#[98]⟩, Value.string ⟨#[]⟩, Value.int .i64 0, Value.slice (some ⟨w.heap.size + 1, 0, none⟩) 2 2, Value.slice (some ⟨w.heap.size + 1 + 1, 0, none⟩) 1 1, Value.slice none 0 0, Value.int .i64 0] 38))).old ((Old.refl _).alloc (.cells #[Value.slice none 0 0, Value.slice (some ⟨w.heap.size + 1 + 1 + 1, 0, none⟩) 2 2] 33))
  have K3 := (Recs.lit trE (((w.alloc (.cells #[Value.string ⟨#[67, 111, 108, 111, 114]⟩, Value.string ⟨#[111, 102, 32, 108, 105, 110, 107, 115]⟩, Value.int .i64 0, Value.string ⟨#[80, 114, 105, 110, 116]⟩, Value.string ⟨#[]⟩, Value.int .i64 0] 40)).alloc (.cells #[Value.string ⟨#[112, 114, 105, 110, 116]⟩, Value.string ⟨#[]⟩, Value.int .i64 0, Value.string ⟨#[99, 111, 108, 111, 114]⟩, Value.string ⟨#[]⟩, Value.int .i64 0] 40)).alloc (.cells #[Value.string ⟨#[67, 111, 108, 111, 117, 114]⟩, Value.string ⟨#[99, 111, 108, 111, 114]⟩, Value.int .i64 0] 78)) 38 [⟨0, ⟨#[97]⟩, ⟨#[]⟩, 0, (some ⟨w.heap.size, 0, none⟩, 2, 2), (none, 0, 0), (none, 0, 0), 0⟩, ⟨0, ⟨#[98]⟩, ⟨#[]⟩, 0, (some ⟨w.heap.size + 1, 0, none⟩, 2, 2), (some ⟨w.heap.size + 1 + 1, 0, none⟩, 1, 1), (none, 0, 0), 0⟩] (b := w.heap.size + 1 + 1 + 1) (by simp) (cs := #[Value.int .i64 0, Value.string ⟨#[97]⟩, Value.string ⟨#[]⟩, Value.int .i64 0, Value.slice (some ⟨w.heap.size, 0, none⟩) 2 2, Value.slice none 0 0, Value.slice none 0 0, Value.int .i64 0, Value.int .i64 0, Value.string ⟨#[98]⟩, Value.string ⟨#[]⟩, Value.int .i64 0, Value.slice (some ⟨w.heap.size + 1, 0, none⟩) 2 2, Value.slice (some ⟨w.heap.size + 1 + 1, 0, none⟩) 1 1, Value.slice none 0 0, Value.int .i64 0]) rfl (n := 2) rfl (by omega)).old ((Old.refl _).alloc (.cells #[Value.slice none 0 0, Value.slice (some ⟨w.heap.size + 1 + 1 + 1, 0, none⟩) 2 2] 33))
  have K4 := Recs.lit srE ((((w.alloc (.cells #[Value.string ⟨#[67, 111, 108, 111, 114]⟩, Value.string ⟨#[111, 102, 32, 108, 105, 110, 107, 115]⟩, Value.int .i64 0, Value.string ⟨#[80, 114, 105, 110, 116]⟩, Value.string ⟨#[]⟩, Value.int .i64 0] 40)).alloc (.cells #[Value.string ⟨#[112, 114, 105, 110, 116]⟩, Value.string ⟨#[]⟩, Value.int .i64 0, Value.string ⟨#[99, 111, 108, 111, 114]⟩, Value.string ⟨#[]⟩, Value.int .i64 0] 40)).alloc (.cells #[Value.string ⟨#[67, 111, 108, 111, 117, 114]⟩, Value.string ⟨#[99, 111, 108, 111, 114]⟩, Value.int .i64 0] 78)).alloc (.cells #[Value.int .i64 0, Value.string ⟨#[97]⟩, Value.string ⟨#[]⟩, Value.int .i64 0, Value.slice (some ⟨w.heap.size, 0, none⟩) 2 2, Value.slice none 0 0, Value.slice none 0 0, Value.int .i64 0, Value.int .i64 0, Value.string ⟨#[98]⟩, Value.string ⟨#[]⟩, Value.int .i64 0, Value.slice (some ⟨w.heap.size + 1, 0, none⟩) 2 2, Value.slice (some ⟨w.heap.size + 1 + 1, 0, none⟩) 1 1, Value.slice none 0 0, Value.int .i64 0] 38)) 33 [((none, 0, 0), (some ⟨w.heap.size + 1 + 1 + 1, 0, none⟩, 2, 2))] (b := w.heap.size + 1 + 1 + 1 + 1) (by simp) (cs := #[Value.slice none 0 0, Value.slice (some ⟨w.heap.size + 1 + 1 + 1, 0, none⟩) 2 2]) rfl (n := 1) rfl (by omega)
  refine ⟨_, K4, rfl, fun i x T hx hT => ?_⟩
  rcases i with _ | i
  · obtain rfl := Option.some.inj hx
    obtain rfl := Option.some.inj hT
    refine ⟨_, K3, rfl, fun j y t hy ht => ?_⟩
    rcases j with _ | _ | j
    · obtain rfl := Option.some.inj hy
      obtain rfl := Option.some.inj ht
      exact ⟨K0, Recs.nil _ _⟩
    · obtain rfl := Option.some.inj hy
      obtain rfl := Option.some.inj ht
      exact ⟨K1, K2⟩
    · simp at hy
  · simp at hx
set_option maxRecDepth 100000 in
set_option maxHeartbeats 3200000 in
theorem awake_any (w : World) (hT : Tabs w) : Calls Tryz.prog 9 #[] w fun e w' => e = .returned (.bool true) ∧ Old w w' := by
  have oL := ((((((Old.refl w).alloc (.cells #[Value.string ⟨#[67, 111, 108, 111, 114]⟩, Value.string ⟨#[111, 102, 32, 108, 105, 110, 107, 115]⟩, Value.int .i64 0, Value.string ⟨#[80, 114, 105, 110, 116]⟩, Value.string ⟨#[]⟩, Value.int .i64 0] 40)).alloc (.cells #[Value.string ⟨#[112, 114, 105, 110, 116]⟩, Value.string ⟨#[]⟩, Value.int .i64 0, Value.string ⟨#[99, 111, 108, 111, 114]⟩, Value.string ⟨#[]⟩, Value.int .i64 0] 40)).alloc (.cells #[Value.string ⟨#[67, 111, 108, 111, 117, 114]⟩, Value.string ⟨#[99, 111, 108, 111, 114]⟩, Value.int .i64 0] 78)).alloc (.cells #[Value.int .i64 0, Value.string ⟨#[97]⟩, Value.string ⟨#[]⟩, Value.int .i64 0, Value.slice (some ⟨w.heap.size, 0, none⟩) 2 2, Value.slice none 0 0, Value.slice none 0 0, Value.int .i64 0, Value.int .i64 0, Value.string ⟨#[98]⟩, Value.string ⟨#[]⟩, Value.int .i64 0, Value.slice (some ⟨w.heap.size + 1, 0, none⟩) 2 2, Value.slice (some ⟨w.heap.size + 1 + 1, 0, none⟩) 1 1, Value.slice none 0 0, Value.int .i64 0] 38)).alloc (.cells #[Value.slice none 0 0, Value.slice (some ⟨w.heap.size + 1 + 1 + 1, 0, none⟩) 2 2] 33))
  have HB := Lib.hid (Build_any _ exS _ (ex_srk w) (hT.old oL) (by decide) (by decide) (by rw [ex_mns]; exact ex_sz) (by rw [ex_mns]; exact ex_fs))
  have HT := Lib.hid hT
  clear hT
  go_enter Tryz.func9, Tryz.ntmps9
  go_upto_region 2 with (go_at_call 11; refine HB.out.mono ?_; rintro e w1 ⟨hR, o1⟩; obtain ⟨u, rfl, hEn⟩ := RetB.ok (by rw [ex_mns] at hR; exact hR) ex_build; clear hR)
  have Ho1 := Lib.hid (oL.trans o1)
  obtain ⟨a, cap, rfl, hc1, hc2⟩ := Seqs.form hEn
  obtain ⟨b, off, ha, hat⟩ := Ents.open hEn
  have hl4 : (ixOf exM).length = 4 := by rw [ixOf_length, ex_places]; rfl
  obtain ⟨a2, c2, a3, c3, h0, _, _⟩ := hat 0 _ (by rw [ex_ix]; rfl)
  obtain ⟨a4, c4, a5, c5, h2, _, _⟩ := hat 2 _ (by rw [ex_ix]; rfl)
  obtain ⟨a6, c6, a7, c7, h3, _, _⟩ := hat 3 _ (by rw [ex_ix]; rfl)
  rw [ex_term, ex_sub] at h0
  rw [ex_sees] at h2
  rw [ex_topics] at h3
  obtain rfl := ha (by rw [hl4]; decide)
  rw [hl4] at hc1 ⊢
  have d0 : ∀ V, Old w1 V → V.cell? ⟨b, off, none⟩ = some (.string ⟨#[67, 111, 108, 111, 114]⟩) := fun V o => by have := (h0 V o).1; rw [Nat.zero_mul, Nat.add_zero] at this; exact this
  have d1 : ∀ V, Old w1 V → V.cell? ⟨b, off + 1, none⟩ = some (.string ⟨#[]⟩) := fun V o => by have := (h0 V o).2.1; rw [Nat.zero_mul, Nat.add_zero] at this; exact this
  have d2 : ∀ V, Old w1 V → V.cell? ⟨b, off + 8 + 3, none⟩ = some (.slice a5 1 c5) := fun V o => (h2 V o).2.2.2
  have d3 : ∀ V, Old w1 V → V.cell? ⟨b, off + 12 + 2, none⟩ = some (.slice a6 2 c6) := fun V o => (h3 V o).2.2.1
  have HEn := Lib.hid hEn
  have HT1 := Lib.hid (HT.out.old Ho1.out)
  clear h0 h2 h3 hat hEn HB HT o1 oL
  have hsm := ix_small (M := exM) (by decide) ex_sz ex_fs
  have hln : (ixOf exM).length ≤ 1000000 := by rw [hl4]; decide
  have hsl := ix_sees_len (M := exM) (by decide)
  have htl := ix_tops_len (M := exM) (by decide)
  have HC := Lib.hid (Check_any _ (ixOf exM) 2 w1 HEn.out HT1.out hsl hsm)
  have HTo := Lib.hid (fun V (o : Old w1 V) => Topics_any _ (ixOf exM) kCOLOR V (HEn.out.old o) (HT1.out.old o) (by decide) hln htl (fun e he => (hsm e he).1))
  have HFo := Lib.hid (fun V (o : Old w1 V) => Follow_any _ (ixOf exM) kcolour V (HEn.out.old o) (HT1.out.old o) (by decide) (by rw [f_kcolour]; decide) hln hsl (fun e he => ⟨(hsm e he).1, (hsm e he).2.2.1, (hsm e he).2.2.2.2.2⟩))
  have HHe := Lib.hid (fun V (o : Old w1 V) => Headings_any _ (ixOf exM) V (HEn.out.old o) (HT1.out.old o) hln (fun e he => ⟨(hsm e he).1, (hsm e he).2.2.1⟩))
  rw [f_kCOLOR] at HTo
  rw [f_kcolour] at HFo
  rw [hl4] at HC HTo HFo HHe
  have he2 := ex_head
  rw [hl4] at he2
  have He2 := Lib.hid he2
  clear he2
  clear hsm hln hsl htl hl4
  go_wp2_with (first
    | (go_at_call 15; refine HC.out.mono ?_; rintro e w2 ⟨⟨pa, pc, rfl, hck⟩, o2⟩; obtain ⟨rfl, rfl⟩ := hck.unique ex_check; clear hck)
    | (go_at_call 14; refine (HTo.out _ o2).mono ?_; rintro e w3 ⟨⟨u3, r3, rfl, hr3, hw3⟩, o3⟩; have o23 := o2.trans o3; obtain ⟨a3', c3', rfl, _, _⟩ := ownsRow_form hw3; have hlen3 := ex_tops hr3; rw [hlen3]; clear hr3 hw3)
    | (go_at_call 20; refine (HFo.out _ o23).mono ?_; rintro e w4 ⟨⟨u4, r4, rfl, hr4, hw4⟩, o4⟩; have o24 := o23.trans o4; obtain ⟨a4', c4', rfl, _, _⟩ := hw4.form; have hlen4 := ex_follow hr4; rw [hlen4]; clear hr4 hw4)
    | (go_at_call 18; refine (HHe.out _ o24).mono ?_; rintro e w5 ⟨⟨u5, rfl, hw5⟩, o5⟩; obtain ⟨a5', c5', rfl, _, _⟩ := hw5.form; rw [He2.out]; clear hw5))
  go_ret
  exact ⟨rfl, Ho1.out.trans (o24.trans o5)⟩
end Go.Proofs.YtohngjkedhpikaaGreatDoor
/-
  KEYWORD, RW: what the rows share: Build's answer, few sources.
-/






namespace Go.Proofs.YtohngjkedhpikaaGreatDoor
open Go.RowKit

theorem RetB.split {w' : World} {ns nt : Nat} {M : List Mn} {e : Ending} (h : RetB w' ns nt M e) : (∃ g, e = .returned (.tuple #[.slice none 0 0, .iface 169 (.pointer (some ⟨g, 0, none⟩))])) ∨ ∃ a c l, e = .returned (.tuple #[.slice a l.length c, .nilIface]) ∧ l.length ≤ c ∧ c ≤ 9223372036854775807 ∧ Ents w' (.slice a l.length c) l ∧ Hid (GoodM M) ∧ Hid (l = ixOf M) := by
  rcases h with ⟨f, v, _, rfl, g, rfl, _⟩ | ⟨l, u, h1, rfl, h2⟩
  · exact .inl ⟨g, rfl⟩
  · obtain ⟨h3, h4, _⟩ := buildK_good h1
    obtain ⟨a, c, rfl, hc1, hc2⟩ := Seqs.form h2
    exact .inr ⟨a, c, l, rfl, hc1, hc2, h2, Lib.hid h3, Lib.hid h4⟩
theorem sees_flat {l : List En} {e : En} (h : e ∈ l) : e.sees.length ≤ (l.flatMap En.sees).length := by
  obtain ⟨l1, l2, rfl⟩ := List.append_of_mem h
  simp only [List.flatMap_append, List.flatMap_cons, List.length_append]
  omega
/-- what the rows of keyword know of few sources -/
theorem few_facts {S : List (List Tk)} (hB : ∀ T ∈ S, T.length ≤ 1048576 ∧ ∀ t ∈ T, TkB t 1048576) :
    (∀ m ∈ mns S S.length, m.term.size ≤ 4194304 ∧ m.sub.size ≤ 4194304 ∧ m.aim.size ≤ 4194304) ∧ (∀ m ∈ mns S S.length, (foldS m.term).size ≤ 4194304 ∧ (foldS m.sub).size ≤ 4194304 ∧ (foldS m.aim).size ≤ 4194304) := by
  have h := mns_small hB (c := S.length)
  refine ⟨fun m hm => ?_, fun m hm => ?_⟩
  · have := h m hm; omega
  · have := h m hm
    have h1 := foldS_size m.term
    have h2 := foldS_size m.sub
    have h3 := foldS_size m.aim
    omega
theorem few_bound {S : List (List Tk)} (hS : S.length ≤ 1048576) (hB : ∀ T ∈ S, T.length ≤ 1048576 ∧ ∀ t ∈ T, TkB t 1048576) : totN S S.length ≤ 4611686018427387904 := by
  obtain ⟨h1, h2⟩ := mns_crude hB S.length
  have h3 : S.length * (1048576 * (2 * 1048576)) ≤ 1048576 * (1048576 * (2 * 1048576)) := Nat.mul_le_mul_right _ hS
  have h4 : S.length * 1048576 ≤ 1048576 * 1048576 := Nat.mul_le_mul_right _ hS
  unfold totN
  omega
end Go.Proofs.YtohngjkedhpikaaGreatDoor
/-
  KeywordFollows: whom one should see, and whom of those; nobody comes back: the walk.
-/


namespace Go.Proofs.YtohngjkedhpikaaGreatDoor
open Go.RowKit
attribute [local go_sem] Old.refl Old.alloc Old.drew Old.setCell OldW.old

set_option maxRecDepth 100000 in
set_option maxHeartbeats 3200000 in
theorem keywordFollows_row_walk (W : World) (hT : Tabs W) (S : List (List Tk)) (v : Value) (hv : Srk W v S) (hS : S.length ≤ 1048576) (hB : ∀ T ∈ S, T.length ≤ 1048576 ∧ ∀ t ∈ T, TkB t 1048576) (term : ByteArray) (hx : term.size ≤ 1048576) :
    Calls Tryz.prog 6 #[v, .string term] W fun e w' => e = .returned (.bool true) ∧ Old W w' := by
  have HA := Lib.hid (awake_any W hT)
  have HN := Lib.hid (fun V (o : Old W V) => few_any v S V (hv.old o) (few_bound hS hB))
  by_cases hfw : totN S S.length ≤ 300 ∧ S.length ≤ 200
  · have hfd : (decide (totN S S.length ≤ 300) && decide (S.length ≤ 200)) = true := by simp [hfw]
    rw [hfd] at HN
    obtain ⟨hm1, hm2⟩ := few_facts hB
    have hM : (mns S S.length).length ≤ 1000 := by have := hfw.1; unfold totN at this; omega
    have HBd := Lib.hid (fun V (o : Old W V) => Build_any v S V (hv.old o) (hT.old o) hM (by have := hfw.1; unfold totN at this; omega) hm1 hm2)
    have Hsm := Lib.hid (ix_small hM hm1 hm2)
    have Hsl := Lib.hid (ix_sees_len hM)
    have Hln : Hid ((ixOf (mns S S.length)).length ≤ 1000) := Lib.hid (by rw [ixOf_length]; exact Nat.le_trans (places_length _) hM)
    have Hsz := Lib.hid (And.intro (show term.size ≤ 4194304 by omega) (show (foldS term).size ≤ 4194304 by have := foldS_size term; omega))
    have HT := Lib.hid hT
    clear hfw hfd hm1 hm2 hM hT hv hB hS hx
    generalize mns S S.length = M at *
    go_enter Tryz.func6, Tryz.ntmps6
    go_upto_region 6 with (first
      | (go_at_call 9; refine HA.out.mono ?_; rintro e w1 ⟨rfl, o1⟩)
      | (go_at_call 10; refine (HN.out _ o1).mono ?_; rintro e w2 ⟨rfl, o2⟩; have o12 := o1.trans o2)
      | (go_at_call 11; refine (HBd.out _ o12).mono ?_; rintro e w3 ⟨hR, o3⟩; have o13 := o12.trans o3; rcases hR.split with ⟨g, rfl⟩ | ⟨a, c, l, rfl, hc1, hc2, hEn, Hg, Hix⟩))
    · clear hR
      go_wp2_with fail
      go_ret
      exact ⟨rfl, o13⟩
    · clear hR HA HN HBd
      rw [← Hix.out] at Hsm Hsl Hln
      have HEn := Lib.hid hEn
      have HT3 := Lib.hid (HT.out.old o13)
      have hln := Hln.out
      have HFo := Lib.hid (fun s (h1 : s.size ≤ 4194304) (h2 : (foldS s).size ≤ 4194304) V (o : Old w3 V) => Follow_any _ l s V (HEn.out.old o) (HT3.out.old o) h1 h2 (by omega) Hsl.out (fun e he => ⟨(Hsm.out e he).1, (Hsm.out e he).2.2.1, (Hsm.out e he).2.2.2.2.2⟩))
      have HFi := Lib.hid (fun V (o : Old w3 V) => Find_any _ l term V (HEn.out.old o) (HT3.out.old o) (by omega) (fun e he => (Hsm.out e he).1) Hsz.out.1)
      have HFd := Lib.hid (fun V => RFold_any term V Hsz.out.1)
      have Hf0 := Lib.hid (HFo.out term Hsz.out.1 Hsz.out.2)
      have Hown2 := Lib.hid (show foldS (foldS term) = foldS term from fold_twice term)
      clear hEn HT
      obtain ⟨own, hown⟩ : ∃ own, foldS term = own := ⟨_, rfl⟩
      rw [hown] at HFi HFd Hf0 Hown2
      clear hown
      go_wp2_with (first
        | (go_at_call 20; (with_reducible refine (Hf0.out w3 (Old.refl w3)).mono ?_); rintro e w4 ⟨⟨u, f, rfl, hfo, hfw⟩, o4⟩; obtain ⟨fa, fc, rfl, hfc1, hfc2⟩ := hfw.form)
        | (go_at_call 12; refine (HFd.out _).mono ?_; rintro e w5 ⟨rfl, o5⟩; have o35 := o4.trans o5))
      have HTx := Lib.hid ((Txts.of_recs hfw.recs).old o5)
      have Hfo := Lib.hid hfo
      have ho0 := o13.trans o35
      obtain ⟨fb, off, hfa, hfat⟩ := HTx.out.at1
      have Hfa := Lib.hid hfa
      have Hfat := Lib.hid hfat
      have O13 := Lib.hid o13
      have O35 := Lib.hid o35
      have Hf2 := Lib.hid (fun s (h : s ∈ f) => by
        obtain ⟨e, he, x, hx, hxs⟩ := follow_tgt hfo h
        have h1 := ((Hsm.out e he).2.2.2.2.2 x hx).2
        rw [hxs] at h1
        exact (And.intro (follow_fold hfo h) h1 : foldS s = s ∧ s.size ≤ 4194304))
      have hfl : f.length ≤ 9223372036854775807 := by omega
      clear hfo hfw hfa hfat Hf0 HFd o1 o2 o12 o3 o4 o5 o13 o35
      go_loopw [37] (fun j wr => ∃ (k : Nat), j = .int .i64 k ∧ k ≤ f.length ∧ Old w5 wr) (fun j _ => f.length - (intOf j).toNat)
      case atStart => exact ⟨0, rfl, Nat.zero_le _, Old.refl _⟩
      case round =>
        obtain ⟨k, rfl, hk, ho⟩ := hrel
        by_cases hlt : k < f.length
        · have hi : (k : Int) < f.length := by omega
          obtain ⟨s, hs⟩ : ∃ s, f[k]? = some s := ⟨_, List.getElem?_eq_getElem hlt⟩
          have hmem : s ∈ f := List.mem_of_getElem? hs
          obtain rfl := Hfa.out (by omega)
          have c0 : ∀ V, Old wr V → V.cell? ⟨fb, off + k, none⟩ = some (.string s) := fun V o => Hfat.out k s hs V (ho.trans o)
          obtain ⟨hss, hsz⟩ := Hf2.out s hmem
          have hso : ¬ s = own := ((Hfo.out.2 s).1 hmem).1
          have hb : (s.toList == own.toList) = false := by rw [str_beq]; simpa using hso
          have HF1 := Lib.hid (HFo.out s hsz (by rw [hss]; exact hsz))
          rw [hss] at HF1
          have HIn := Lib.hid (fun r (hr : IsFollow (edgeL l) s r) t (ht : t ∈ r) => by rw [Hix.out] at hr; exact follow_on Hg.out (Hix.out ▸ Hfo.out) hmem hr ht)
          have ho3 := Lib.hid (O35.out.trans ho)
          have HH := Lib.hid (fun t V (o : Old wr V) => Holds_any _ f t V (HTx.out.old (ho.trans o)))
          by_cases hk0 : k = 0
          · have hkp : decide (0 < k) = false := by rw [decide_eq_false_iff_not]; omega
            clear hk0
            go_wp2_with (first
              | (go_at_call 20; (with_reducible refine (HF1.out _ (ho3.out.trans (Old.refl wr))).mono ?_); rintro e w7 ⟨⟨u7, r, rfl, hr, hrw⟩, o7⟩; obtain ⟨ra, rc, rfl, hrc1, hrc2⟩ := hrw.form))
            have HR7 := Lib.hid (Txts.of_recs hrw.recs)
            obtain ⟨rb, roff, hra, hrat⟩ := HR7.out.at1
            have Hra := Lib.hid hra
            have Hrat := Lib.hid hrat
            have Hr := Lib.hid hr
            have ho7 := Lib.hid ((Old.refl wr).trans o7)
            have how := Lib.hid ho
            clear hra hrat hr hrw o7 c0 HF1 ho
            go_loopw [63] (fun j wx => ∃ (m : Nat), j = .int .i64 m ∧ m ≤ r.length ∧ Old w7 wx) (fun j _ => r.length - (intOf j).toNat)
            case atStart => exact ⟨0, rfl, Nat.zero_le _, Old.refl _⟩
            case round =>
              obtain ⟨m, rfl, hm, ho⟩ := hrel
              by_cases hlt2 : m < r.length
              · have hi2 : (m : Int) < r.length := by omega
                obtain ⟨t, ht⟩ : ∃ t, r[m]? = some t := ⟨_, List.getElem?_eq_getElem hlt2⟩
                obtain rfl := Hra.out (by omega)
                have c1 : ∀ V, Old wr V → V.cell? ⟨rb, roff + m, none⟩ = some (.string t) := fun V o => Hrat.out m t ht V (ho.trans o)
                obtain ⟨hn1, hn2, hin⟩ := HIn.out r Hr.out t (List.mem_of_getElem? ht)
                have hb1 : (t.toList == s.toList) = false := by rw [str_beq]; simpa using hn1
                have hb2 : (t.toList == own.toList) = false := by rw [str_beq]; simpa using hn2
                have HH1 := Lib.hid (fun V (o : Old wr V) => HH.out t V ((ho7.out.trans ho).trans o))
                rw [show (f.any fun x => decide (x = t)) = true from List.any_eq_true.2 ⟨t, hin, by simp⟩] at HH1
                clear hn1 hn2 hin ht
                go_wp2_with (go_at_call 22; (with_reducible refine (HH1.out _ (by first | exact Old.refl _ | exact (Old.refl _).drew)).mono ?_); rintro e w8 ⟨rfl, o8⟩)
                go_roundw
                case rel => exact ⟨m + 1, by go_num, by omega, ho.trans o8⟩
                case measure => simp [intOf]; omega
              · obtain rfl : m = r.length := by omega
                have hi2 : ¬ (r.length : Int) < r.length := by omega
                have hoE := (how.out.trans ho7.out).trans ho
                go_wp2_with fail
                go_roundw
                case rel => exact ⟨k + 1, by go_num, by omega, hoE⟩
                case measure => simp [intOf]; omega
          · obtain ⟨km, hkm⟩ : ∃ km, km + 1 = k := ⟨k - 1, by omega⟩
            have hkmi : (k : Int) - 1 = (km : Int) := by omega
            have hkw : IntKind.i64.wrap (km : Int) = (km : Int) := IntWalk.i64_in _ (by omega)
            have hkm1 : (km : Int) < f.length := by omega
            have hkp : decide (0 < k) = true := by rw [decide_eq_true_iff]; omega
            obtain ⟨s', hs'⟩ : ∃ s', f[km]? = some s' := ⟨_, List.getElem?_eq_getElem (by omega)⟩
            have c2 : ∀ V, Old wr V → V.cell? ⟨fb, off + km, none⟩ = some (.string s') := fun V o => Hfat.out km s' hs' V (ho.trans o)
            have HC := Lib.hid (fun V => RCompare_any s' s V (Hf2.out s' (List.mem_of_getElem? hs')).2 hsz)
            rw [follow_lt Hfo.out hs' (by rw [hkm]; exact hs)] at HC
            clear hk0 hs'
            go_wp2_with (first
              | (go_at_call 21; (with_reducible refine (HC.out _).mono ?_); rintro e w6 ⟨rfl, o6⟩)
              | (go_at_call 20; (with_reducible refine (HF1.out _ (ho3.out.trans o6)).mono ?_); rintro e w7 ⟨⟨u7, r, rfl, hr, hrw⟩, o7⟩; obtain ⟨ra, rc, rfl, hrc1, hrc2⟩ := hrw.form))
            have HR7 := Lib.hid (Txts.of_recs hrw.recs)
            obtain ⟨rb, roff, hra, hrat⟩ := HR7.out.at1
            have Hra := Lib.hid hra
            have Hrat := Lib.hid hrat
            have Hr := Lib.hid hr
            have ho7 := Lib.hid (o6.trans o7)
            have how := Lib.hid ho
            clear hra hrat hr hrw o7 c0 HF1 ho
            go_loopw [63] (fun j wx => ∃ (m : Nat), j = .int .i64 m ∧ m ≤ r.length ∧ Old w7 wx) (fun j _ => r.length - (intOf j).toNat)
            case atStart => exact ⟨0, rfl, Nat.zero_le _, Old.refl _⟩
            case round =>
              obtain ⟨m, rfl, hm, ho⟩ := hrel
              by_cases hlt2 : m < r.length
              · have hi2 : (m : Int) < r.length := by omega
                obtain ⟨t, ht⟩ : ∃ t, r[m]? = some t := ⟨_, List.getElem?_eq_getElem hlt2⟩
                obtain rfl := Hra.out (by omega)
                have c1 : ∀ V, Old wr V → V.cell? ⟨rb, roff + m, none⟩ = some (.string t) := fun V o => Hrat.out m t ht V (ho.trans o)
                obtain ⟨hn1, hn2, hin⟩ := HIn.out r Hr.out t (List.mem_of_getElem? ht)
                have hb1 : (t.toList == s.toList) = false := by rw [str_beq]; simpa using hn1
                have hb2 : (t.toList == own.toList) = false := by rw [str_beq]; simpa using hn2
                have HH1 := Lib.hid (fun V (o : Old wr V) => HH.out t V ((ho7.out.trans ho).trans o))
                rw [show (f.any fun x => decide (x = t)) = true from List.any_eq_true.2 ⟨t, hin, by simp⟩] at HH1
                clear hn1 hn2 hin ht
                go_wp2_with (go_at_call 22; (with_reducible refine (HH1.out _ (by first | exact Old.refl _ | exact (Old.refl _).drew)).mono ?_); rintro e w8 ⟨rfl, o8⟩)
                go_roundw
                case rel => exact ⟨m + 1, by go_num, by omega, ho.trans o8⟩
                case measure => simp [intOf]; omega
              · obtain rfl : m = r.length := by omega
                have hi2 : ¬ (r.length : Int) < r.length := by omega
                have hoE := (how.out.trans ho7.out).trans ho
                go_wp2_with fail
                go_roundw
                case rel => exact ⟨k + 1, by go_num, by omega, hoE⟩
                case measure => simp [intOf]; omega
        · obtain rfl : k = f.length := by omega
          have hi : ¬ (f.length : Int) < f.length := by omega
          have ho3 := Lib.hid (O35.out.trans ho)
          obtain ⟨F, hF⟩ : ∃ F, findK l own = F := ⟨_, rfl⟩
          have HFm := Lib.hid (fun x => (findK_mem (l := l) (t := own) (x := x)).1)
          have Hcnt : Hid (cntN l F F.length = 0 ↔ f.length = 0) := Lib.hid (by rw [← hF, Hix.out]; exact cnt_iff Hg.out (Hix.out ▸ Hfo.out))
          have HEd := Lib.hid (fun c (hc : edgeL l own c) => (show c ∈ f by rw [Hix.out] at hc; exact follow_edge Hg.out (Hix.out ▸ Hfo.out) hc))
          have hFl : F.length ≤ l.length := by rw [← hF]; exact pickK_length _ _ _
          have Hcl : Hid (∀ n, n ≤ F.length → cntN l F n ≤ 1000000000) := Lib.hid fun n hn => by
            have h1 := cntN_le (l := l) (B := 1000000) (fun e he => Nat.le_trans (sees_flat he) Hsl.out) F n
            have : n * 1000000 ≤ 1000 * 1000000 := Nat.mul_le_mul_right _ (by omega)
            omega
          rw [hF] at HFi HFm
          have how := Lib.hid ho
          clear hF HFo Hfat Hf2 ho
          go_wp2_with (go_at_call 23; (with_reducible refine (HFi.out _ ho3.out).mono ?_); rintro e w6 ⟨⟨u6, rfl, hI6⟩, o6⟩; obtain ⟨ia, ic, ib, ioff, rfl, hic1, hic2, hia, hiat⟩ := hI6)
          have Hia := Lib.hid hia
          have Hiat := Lib.hid hiat
          obtain ⟨eb, eoff, hea, heat⟩ := Ents.open HEn.out
          have Hea := Lib.hid hea
          have Heat := Lib.hid heat
          have O36 := Lib.hid (ho3.out.trans o6)
          have O56 := Lib.hid (how.out.trans o6)
          clear hia hiat hea heat HFi o6
          go_loopw [13, 87] (fun x j wr => ∃ (k : Nat), j = .int .i64 k ∧ k ≤ F.length ∧ x = .int .i64 (cntN l F k : Nat) ∧ Old w6 wr) (fun _ j _ => F.length - (intOf j).toNat)
          case atStart => exact ⟨0, rfl, Nat.zero_le _, rfl, Old.refl _⟩
          case round =>
            obtain ⟨k, rfl, hk, rfl, ho⟩ := hrel
            by_cases hlt : k < F.length
            · have hi5 : (k : Int) < F.length := by omega
              obtain ⟨x, hx⟩ : ∃ x, F[k]? = some x := ⟨_, List.getElem?_eq_getElem hlt⟩
              obtain ⟨i, e, he, rfl, hsub, hte⟩ := HFm.out x (List.mem_of_getElem? hx)
              have hil : i < l.length := (List.getElem?_eq_some_iff.1 he).1
              obtain rfl := Hia.out (by omega)
              obtain rfl := Hea.out (by omega)
              have c0 : ∀ V, Old wr V → V.cell? ⟨ib, ioff + k, none⟩ = some (.int .i64 i) := fun V o => by
                have := Hiat.out k (by omega) V (ho.trans o)
                rw [show ix F k = (i : Int) by simp [ix, List.getD, hx]] at this
                exact this
              have hi1 : (i : Int) < l.length := by omega
              have hi2 : decide (l.length ≤ i) = false := by rw [decide_eq_false_iff_not]; omega
              have hi3 : decide ((i : Int) < 0) = false := by rw [decide_eq_false_iff_not]; omega
              obtain ⟨a2, c2, a3, c3, hcs, _, hts⟩ := Heat.out i e he
              have c1 : ∀ V, Old wr V → V.cell? ⟨eb, eoff + i * 4 + 3, none⟩ = some (.slice a3 e.sees.length c3) := fun V o => (hcs V (O36.out.trans (ho.trans o))).2.2.2
              obtain ⟨sb, soff, hsa, hsat⟩ := hts.at1
              have Hsa := Lib.hid hsa
              have Hsat := Lib.hid hsat
              have Hsm' := Lib.hid (Hsm.out e (List.mem_of_getElem? he)).2.2.2.2.2
              have HEd' := Lib.hid (fun x (hx : x ∈ e.sees) => HEd.out (foldS x) ⟨e, List.mem_of_getElem? he, hsub, hte, x, hx, rfl⟩)
              have Hc1 := Lib.hid (cntN_succ hx he)
              have hc2 := Hcl.out (k + 1) (by omega)
              rw [Hc1.out] at hc2
              have how6 := Lib.hid ho
              clear hx hsub hte hcs hts hsa hsat he
              generalize cntN l F k = N at *
              go_wp2_with fail
              have ho6 := how6.out
              go_loopw [13, 105] (fun x j wx => ∃ (m : Nat), j = .int .i64 m ∧ m ≤ e.sees.length ∧ x = .int .i64 ((N + m : Nat) : Int) ∧ Old w6 wx) (fun _ j _ => e.sees.length - (intOf j).toNat)
              case atStart => exact ⟨0, rfl, Nat.zero_le _, rfl, ho6⟩
              case round =>
                clear ho6 c0 c1 ho
                obtain ⟨m, rfl, hm, rfl, ho⟩ := hrel
                by_cases hlt2 : m < e.sees.length
                · have hi6 : (m : Int) < e.sees.length := by omega
                  obtain ⟨s, hs⟩ : ∃ s, e.sees[m]? = some s := ⟨_, List.getElem?_eq_getElem hlt2⟩
                  obtain rfl := Hsa.out (by omega)
                  have c2 : ∀ V, Old wr V → V.cell? ⟨sb, soff + m, none⟩ = some (.string s) := fun V o => Hsat.out m s hs V (O36.out.trans (ho.trans o))
                  have hin := HEd'.out s (List.mem_of_getElem? hs)
                  have HF9 := Lib.hid (fun V => RFold_any s V (Hsm'.out s (List.mem_of_getElem? hs)).1)
                  have HH1 := Lib.hid (fun V (o : Old wr V) => Holds_any _ f (foldS s) V (HTx.out.old ((O56.out.trans ho).trans o)))
                  rw [show (f.any fun x => decide (x = foldS s)) = true from List.any_eq_true.2 ⟨_, hin, by simp⟩] at HH1
                  clear hin hs
                  go_wp2_with (first
                    | (go_at_call 12; (with_reducible refine (HF9.out _).mono ?_); rintro e w7 ⟨rfl, o7⟩)
                    | (go_at_call 22; (with_reducible refine (HH1.out _ o7).mono ?_); rintro e w8 ⟨rfl, o8⟩; have o78 := o7.trans o8))
                  go_roundw
                  case rel => exact ⟨m + 1, by go_num, by omega, by go_num, ho.trans o78⟩
                  case measure => simp [intOf]; omega
                · obtain rfl : m = e.sees.length := by omega
                  have hi6 : ¬ (e.sees.length : Int) < e.sees.length := by omega
                  go_wp2_with fail
                  go_roundw
                  case rel => exact ⟨k + 1, by go_num, by omega, by rw [Hc1.out], ho⟩
                  case measure => simp [intOf]; omega
            · obtain rfl : k = F.length := by omega
              have hi5 : ¬ (F.length : Int) < F.length := by omega
              have hoE := (O13.out.trans O36.out).trans ho
              have hcv := Hcnt.out
              generalize cntN l F F.length = N at *
              by_cases hN : N = 0
              · have hf0 : f.length = 0 := hcv.1 hN
                have hq1 : ((N : Int) == 0) = true := by rw [hN]; rfl
                have hq2 : ((f.length : Int) == 0) = true := by rw [hf0]; rfl
                clear hN hf0 hcv
                go_wp2_with fail
                go_ret
                exact ⟨rfl, hoE⟩
              · have hf0 : ¬ f.length = 0 := fun h => hN (hcv.2 h)
                have hq1 : ((N : Int) == 0) = false := by rw [beq_eq_false_iff_ne]; omega
                have hq2 : ((f.length : Int) == 0) = false := by rw [beq_eq_false_iff_ne]; omega
                clear hN hcv
                go_wp2_with fail
                go_ret
                exact ⟨rfl, hoE⟩
  · have hfd : (decide (totN S S.length ≤ 300) && decide (S.length ≤ 200)) = false := by
      rw [← Bool.not_eq_true]
      intro h
      rw [Bool.and_eq_true, decide_eq_true_eq, decide_eq_true_eq] at h
      exact hfw h
    rw [hfd] at HN
    clear hfd hfw hv hT hB hS
    go_enter Tryz.func6, Tryz.ntmps6
    go_wp2_with (first
      | (go_at_call 9; refine HA.out.mono ?_; rintro e w1 ⟨rfl, o1⟩)
      | (go_at_call 10; refine (HN.out _ o1).mono ?_; rintro e w2 ⟨rfl, o2⟩; have o12 := o1.trans o2))
    go_ret
    exact ⟨rfl, o12⟩
end Go.Proofs.YtohngjkedhpikaaGreatDoor
/-
  THE TWO TABLES OF PACKAGE utf8, AS THIS SEAT's ROWS LIST THEM: what the list gives; a world that holds them.
-/







namespace Go.Proofs.YtohngjkedhpikaaGreatDoor
open Go.Shelf Go.Lib Go.RowKit

theorem first_eq : (Rows.laid_unicode_utf8_first : DataW Unit) = Lib.firstData := by kernel_rfl
theorem accept_eq : (Rows.laid_unicode_utf8_acceptRanges : DataW Unit) = Lib.acceptData := by kernel_rfl
theorem utf8Tabs_old {w W : World} {a b : Nat} (h : Lib.Utf8Tabs a b w) (o : Old w W) : Lib.Utf8Tabs a b W :=
  ⟨fun c hc => o.cell (h.1 c hc), fun i hi => ⟨o.cell (h.2 i hi).1, o.cell (h.2 i hi).2⟩⟩
theorem tabs_of {l : List (String × DataW Unit)} {W : World} (h : laidMet Tryz.prog l W) (h1 : ("unicode/utf8.first", (Rows.laid_unicode_utf8_first : DataW Unit)) ∈ l) (h2 : ("unicode/utf8.acceptRanges", (Rows.laid_unicode_utf8_acceptRanges : DataW Unit)) ∈ l) : Tabs W := by
  have r1 := Lib.laidMet.reads h h1
  have r2 := Lib.laidMet.reads h h2
  rw [first_eq] at r1
  rw [accept_eq] at r2
  have := utf8Tabs_of_readsT (U8Types.of260 Tryz.lays260) ⟨by kernel_rfl, by kernel_rfl, by kernel_rfl, by kernel_rfl, by kernel_rfl, by kernel_rfl, by kernel_rfl⟩ r1 r2
  exact fun V o => utf8Tabs_old this o
noncomputable def laidWorld (os : Os) : World :=
  let w0 := World.holding Tryz.prog os ⟨#[], #[], []⟩
  let put (h : Array Obj) (g : Nat) (cs : Array Value) : Array Obj := h.modify g fun
    | .cells _ t frozen => .cells cs t frozen
    | o => o
  let h1 := put w0.heap 1 (Lib.firstTab.map fun z => Value.int .u8 z).toArray
  let h2 := put h1 2 ((List.range 16).flatMap fun i => [Value.int .u8 (Lib.accLo i), Value.int .u8 (Lib.accHi i)]).toArray
  { w0 with heap := h2 }
theorem laid_met (os : Os) (args : Array Value) : laidMet Tryz.prog [("unicode/utf8.acceptRanges", (Rows.laid_unicode_utf8_acceptRanges : DataW Unit)), ("unicode/utf8.first", Rows.laid_unicode_utf8_first)] ((laidWorld os).forCall (fun _ _ => 0) ⟨#[], args, []⟩).memory := by
  rw [first_eq, accept_eq]
  exact (LaidIn.of_run (l := [("unicode/utf8.acceptRanges", Lib.acceptData), ("unicode/utf8.first", Lib.firstData)]) [2, 1] 8 (by kernel_rfl) (by kernel_rfl) (by kernel_rfl) (by kernel_rfl)).met
end Go.Proofs.YtohngjkedhpikaaGreatDoor
