/-
  NamesNone: a table that nobody made has no names: the walk.
-/
import Derived.Test.YtpifkinlaicliaaDoorZTextDigits
namespace Go.Proofs.YtpifkinlaicliaaDoor
open Go.RowKit
attribute [local go_sem] Old.refl Old.alloc Old.drew Old.setCell OldW.old Oper.semAt_some

theorem run_equalIn_func_nil {P : Program} (w : World) (d : Nat) (t : TypeId) {ps rs : Array TypeId} {v : Bool} (f : Fn) (ps1 bs : Array Value) (h : P.underlying t = some (.func ps rs v)) :
    (Op.equalIn (d + 1) t (.func f ps1 bs) .nilFunc).run P w = .ok false w := by simp [Op.equalIn, run_underlying h]
theorem run_eql_func_nil {P : Program} (w : World) (t : TypeId) {ps rs : Array TypeId} {v : Bool} (f : Fn) (ps1 bs : Array Value) (h : P.underlying t = some (.func ps rs v)) :
    (binOp .eql t (.func f ps1 bs) .nilFunc).run P w = .ok (.bool false) w := by
  simp only [binOp]
  simp [Op.equal, Op.maxDepth, run_equalIn_func_nil w 9999 t f ps1 bs h]

theorem named_nil : Named [] := ⟨Nat.zero_le _, by simp, by simp⟩
theorem tab_zero (w : World) : Tab (w.alloc (.cells #[.slice none 0 0, .slice none 0 0, .map none] 45)) w.heap.size [] :=
  ⟨⟨_, later (by simp [go_sem]), Txts.nil _⟩, ⟨_, later (by simp [go_sem]), Txts.nil _⟩, .inl ⟨rfl, later (by simp [go_sem])⟩⟩
set_option maxRecDepth 100000 in
set_option maxHeartbeats 3200000 in
theorem namesNone_row_walk (W : World) (hT : Tabs W) (s : ByteArray) (_hs : s.size ≤ 9223372036854775807) (zs : s.size ≤ 140737488351232) (i : Int) (hi : -9223372036854775808 ≤ i ∧ i ≤ 9223372036854775807) :
    Calls Tryd.prog 7 #[.string s, .int .i64 i] W fun e w' => e = .returned (.bool true) ∧ Old W w' := by
  have Ha := Lib.hid (fun V (o : Old W V) => awake_any V (hT.old o))
  have HT := Lib.hid hT
  have HNm := Lib.hid (fun p V (h : Hdl V p []) => Name_any p [] i V h hi.1 hi.2)
  rw [show nameR [] i = (noS, 1) from if_neg (by simp)] at HNm
  have HF := Lib.hid (fun p V (o : Old W V) (h : Hdl V p []) => Find_any p [] s V (hT.old o) h)
  rw [findR_nil] at HF
  have HL := Lib.hid (fun p V (h : Hdl V p []) => Len_any p [] V h)
  have HS := Lib.hid (fun p V (o : Old W V) (h : Hdl V p []) => Sorted_any p [] named_nil V (hT.old o) h)
  have HP := Lib.hid (fun p V (o : Old W V) (h : Hdl V p []) => Prefix_any p [] named_nil s zs V (hT.old o) h)
  have HR := Lib.hid (fun p V (o : Old W V) (h : Hdl V p []) => Near_any p [] named_nil s V (hT.old o) h)
  have hp0 : ((prefixL [] s).map Int.ofNat).length = 0 := by have := prefixL_length [] s; rw [List.length_map]; simpa using this
  have hr0 : ((nearL [] s).map Int.ofNat).length = 0 := by have := nearL_length [] s; rw [List.length_map]; simpa using this
  have hs0 : ((sortedL []).map Int.ofNat).length = 0 := rfl
  have hfn := fun (w : World) f ps1 bs => run_eql_func_nil w 49 f ps1 bs Tryd.underlying49
  clear hT
  refine (callsIn_wide (n := 9)).1 ?_
  refine callsIn_of_wp_marks Tryd.func7 rfl trivial ?_ rfl
  simp only [Tryd.ntmps7, List.size_toArray, List.length_cons, List.length_nil, Nat.reduceAdd, Nat.reduceSub, Array.replicate_succ, Array.replicate_zero, List.push_toArray, List.append_toArray, List.nil_append, List.cons_append]
  refine wpIn_wide.2 ?_
  go_wp2_with (go_at_call 9; refine (Ha.out _ ((Old.refl W).alloc _)).mono ?_; rintro e w1 ⟨rfl, o1⟩)
  have O1 : Old W w1 := ((Old.refl W).alloc _).trans o1
  have O2 : Old W (w1.alloc (.cells #[.slice none 0 0, .slice none 0 0, .map none] 45)) := O1.alloc _
  have hD0 : Hdl (w1.alloc (.cells #[.slice none 0 0, .slice none 0 0, .map none] 45)) none [] := .inl ⟨rfl, rfl⟩
  have hD1 : Hdl (w1.alloc (.cells #[.slice none 0 0, .slice none 0 0, .map none] 45)) (some ⟨w1.heap.size, 0, none⟩) [] := .inr ⟨_, rfl, tab_zero w1⟩
  have hsw2 : (w1.alloc (.cells #[.slice none 0 0, .slice none 0 0, .map none] 45)).heap.size = w1.heap.size + 1 := by simp
  generalize hw2 : (w1.alloc (.cells #[.slice none 0 0, .slice none 0 0, .map none] 45)) = w2 at *
  have o12 : Old w1 w2 := by rw [← hw2]; exact (Old.refl w1).alloc _
  have bR : Boxed w2 W.heap.size 4 (.bool false) := by
    have h1 := Boxed.new W 4 (.bool false)
    exact ((o1.trans o12).block _ (by simp)).trans h1
  clear hw2 o12
  generalize w1.heap.size = tb at *
  generalize hg : tb + 1 = g at *
  have o23 : Old w2 (w2.alloc (.cells #[.pointer none, .pointer (some ⟨tb, 0, none⟩)] 24)) := (Old.refl w2).alloc _
  have CA0 : (w2.alloc (.cells #[.pointer none, .pointer (some ⟨tb, 0, none⟩)] 24)).cell? ⟨g, 0, none⟩ = some (.pointer none) := by rw [← hsw2]; simp [go_sem]
  have CA1 : (w2.alloc (.cells #[.pointer none, .pointer (some ⟨tb, 0, none⟩)] 24)).cell? ⟨g, 1, none⟩ = some (.pointer (some ⟨tb, 0, none⟩)) := by rw [← hsw2]; simp [go_sem]
  have hs3 : (w2.alloc (.cells #[.pointer none, .pointer (some ⟨tb, 0, none⟩)] 24)).heap.size = g + 1 := by simp [hsw2]
  have bR3 := bR.alloc (.cells #[.pointer none, .pointer (some ⟨tb, 0, none⟩)] 24)
  generalize (w2.alloc (.cells #[.pointer none, .pointer (some ⟨tb, 0, none⟩)] 24)) = w3 at *
  have O3 : Old W w3 := O2.trans o23
  have hWB : W.heap.size < g := by have := bR.lt; omega
  have cA0 := later CA0
  have cA1 := later CA1
  have or0 : Old w3 w3 := Old.refl w3
  obtain ⟨wr0, hwr0⟩ : ∃ x, x = w3 := ⟨_, rfl⟩
  rw [← hwr0]
  replace or0 : Old w3 wr0 := by rw [hwr0]; exact or0
  clear hwr0
  refine wp_loop_rounds 3 ?_
  rw [rounds_succ]
  have ca0 := cA0 wr0 or0
  go_wp2_with (first
    | (go_at_call 21; refine (HNm.out none _ (hD0.old (o23.trans or0))).mono ?_; rintro e wA0 ⟨rfl, oA0⟩)
    | (go_at_call 12; refine (HF.out none _ (O3.trans (or0.trans oA0)) (hD0.old (o23.trans (or0.trans oA0)))).mono ?_; rintro e wB0 ⟨rfl, oB0⟩)
    | (go_at_call 22; refine (Each_any _ _).mono ?_; rintro e wC0 ⟨rfl, rfl⟩))
  have hcx0 : (wB0.alloc (.cells #[(.pointer none)] 24)).cell? ⟨wB0.heap.size, 0, none⟩ = some (.pointer none) := by simp [go_sem]
  have oC0 : Old w3 (wB0.alloc (.cells #[(.pointer none)] 24)) := ((or0.trans oA0).trans oB0).alloc _
  have oVB0 : Old wB0 (wB0.alloc (.cells #[(.pointer none)] 24)) := (Old.refl _).alloc _
  have hsz0 : (wB0.alloc (.cells #[(.pointer none)] 24)).heap.size = wB0.heap.size + 1 := by simp
  have hs30 : w3.heap.size ≤ wB0.heap.size := ((or0.trans oA0).trans oB0).size
  generalize (wB0.alloc (.cells #[(.pointer none)] 24)) = V0 at *
  have hown0 : ownOf g V0 = none := by unfold ownOf; rw [oC0.cell CA0]; rfl
  refine (wpIn_wide (n := 9)).1 ?_
  refine wpIn_rangeFunc_ownF (F := Fence.wide) (n := 9) rfl (by decide) (gf := 36) (lb := #[.pointer (some ⟨wB0.heap.size, 0, none⟩)]) rfl trivial (enters_of Tryd.func36 (by kernel_rfl) rfl)
    (Each1_stops 8 none [] named_nil w2 V0 V0.heap.size g g wB0.heap.size hD0 (HT.out.old O2) (o23.trans oC0) (Nat.le_refl _) (by omega) (by omega) (by omega) (by omega) (by omega) (by omega) (by omega) (by omega) hcx0 hown0)
    KpR.trans (KpR.putObj (Nat.le_refl _) (by omega)) (Below.refl _ _) (fun _ => rfl) (fun _ W => Below V0.heap.size V0 W) (fun _ _ _ => False)
    (ownFrom_below (Nat.le_refl _) (Nat.le_refl _)) (fun _ _ _ _ _ hs _ _ => hs) (Below.refl _ _) (fun x => x.elim0) ?assign0 ?body0 ?done0 ?stop0
  case assign0 =>
    intro y x
    exact x.elim0
  case body0 =>
    intro y pre x
    exact x.elim0
  case stop0 =>
    rintro D c pre W _ _ h _
    exact h.elim
  rintro D0 xs0 U0 hD'0 hxs0 hk0 hK0
  have ok0 : Old V0 U0 := hk0
  have oU0 : Old w3 U0 := oC0.trans ok0
  clear hcx0 hown0 hxs0 hk0
  go_wp2_with (first
    | (go_at_call 11; refine (HL.out none _ (hD0.old (o23.trans oU0))).mono ?_; rintro e wE0 ⟨rfl, oE0⟩; have oF0 := oU0.trans oE0)
    | (go_at_call 15; refine (HS.out none _ (O3.trans oF0) (hD0.old (o23.trans oF0))).mono ?_; rintro e wG0 ⟨⟨yG0, rfl, hyG0⟩, oG0⟩; obtain ⟨aG0, cG0, rfl, _, _⟩ := ownsRow_form hyG0; clear hyG0; have oG'0 := oF0.trans oG0; rw [hs0])
    | (go_at_call 14; refine (HP.out none _ (O3.trans oG'0) (hD0.old (o23.trans oG'0))).mono ?_; rintro e wH0 ⟨⟨yH0, rfl, hyH0⟩, oH0⟩; obtain ⟨aH0, cH0, rfl, _, _⟩ := ownsRow_form hyH0; clear hyH0; have oH'0 := oG'0.trans oH0; rw [hp0])
    | (go_at_call 13; refine (HR.out none _ (O3.trans oH'0) (hD0.old (o23.trans oH'0))).mono ?_; rintro e wI0 ⟨⟨yI0, rfl, hyI0⟩, oI0⟩; obtain ⟨aI0, cI0, rfl, _, _⟩ := ownsRow_form hyI0; clear hyI0; have oI'0 := oH'0.trans oI0; rw [hr0]))
  have or1 : Old w3 wI0 := oI'0
  have hK1' : wI0.heap[D0]? = some (.deferred (some [])) := ((((oE0.trans oG0).trans oH0).trans oI0).block D0 (lt_of_heap hK0)).trans hK0
  generalize hw1' : wI0 = wr1 at *
  rw [rounds_succ]
  have ca1 := cA1 wr1 or1
  go_wp2_with (first
    | (go_at_call 21; refine (HNm.out (some ⟨tb, 0, none⟩) _ (hD1.old (o23.trans or1))).mono ?_; rintro e wA1 ⟨rfl, oA1⟩)
    | (go_at_call 12; refine (HF.out (some ⟨tb, 0, none⟩) _ (O3.trans (or1.trans oA1)) (hD1.old (o23.trans (or1.trans oA1)))).mono ?_; rintro e wB1 ⟨rfl, oB1⟩)
    | (go_at_call 22; refine (Each_any _ _).mono ?_; rintro e wC1 ⟨rfl, rfl⟩))
  have hcx1 : (wB1.alloc (.cells #[(.pointer (some ⟨tb, 0, none⟩))] 24)).cell? ⟨wB1.heap.size, 0, none⟩ = some (.pointer (some ⟨tb, 0, none⟩)) := by simp [go_sem]
  have oC1 : Old w3 (wB1.alloc (.cells #[(.pointer (some ⟨tb, 0, none⟩))] 24)) := ((or1.trans oA1).trans oB1).alloc _
  have oVB1 : Old wB1 (wB1.alloc (.cells #[(.pointer (some ⟨tb, 0, none⟩))] 24)) := (Old.refl _).alloc _
  have hsz1 : (wB1.alloc (.cells #[(.pointer (some ⟨tb, 0, none⟩))] 24)).heap.size = wB1.heap.size + 1 := by simp
  have hs31 : w3.heap.size ≤ wB1.heap.size := ((or1.trans oA1).trans oB1).size
  generalize (wB1.alloc (.cells #[(.pointer (some ⟨tb, 0, none⟩))] 24)) = V1 at *
  have hown1 : ownOf g V1 = none := by unfold ownOf; rw [oC1.cell CA0]; rfl
  refine (wpIn_wide (n := 9)).1 ?_
  refine wpIn_rangeFunc_ownF (F := Fence.wide) (n := 9) rfl (by decide) (gf := 36) (lb := #[.pointer (some ⟨wB1.heap.size, 0, none⟩)]) rfl trivial (enters_of Tryd.func36 (by kernel_rfl) rfl)
    (Each1_stops 8 (some ⟨tb, 0, none⟩) [] named_nil w2 V1 V1.heap.size g g wB1.heap.size hD1 (HT.out.old O2) (o23.trans oC1) (Nat.le_refl _) (by omega) (by omega) (by omega) (by omega) (by omega) (by omega) (by omega) (by omega) hcx1 hown1)
    KpR.trans (KpR.putObj (Nat.le_refl _) (by omega)) (Below.refl _ _) (fun _ => rfl) (fun _ W => Below V1.heap.size V1 W) (fun _ _ _ => False)
    (ownFrom_below (Nat.le_refl _) (Nat.le_refl _)) (fun _ _ _ _ _ hs _ _ => hs) (Below.refl _ _) (fun x => x.elim0) ?assign1 ?body1 ?done1 ?stop1
  case assign1 =>
    intro y x
    exact x.elim0
  case body1 =>
    intro y pre x
    exact x.elim0
  case stop1 =>
    rintro D c pre W _ _ h _
    exact h.elim
  rintro D1 xs1 U1 hD'1 hxs1 hk1 hK1
  have ok1 : Old V1 U1 := hk1
  have oU1 : Old w3 U1 := oC1.trans ok1
  clear hcx1 hown1 hxs1 hk1
  go_wp2_with (first
    | (go_at_call 11; refine (HL.out (some ⟨tb, 0, none⟩) _ (hD1.old (o23.trans oU1))).mono ?_; rintro e wE1 ⟨rfl, oE1⟩; have oF1 := oU1.trans oE1)
    | (go_at_call 15; refine (HS.out (some ⟨tb, 0, none⟩) _ (O3.trans oF1) (hD1.old (o23.trans oF1))).mono ?_; rintro e wG1 ⟨⟨yG1, rfl, hyG1⟩, oG1⟩; obtain ⟨aG1, cG1, rfl, _, _⟩ := ownsRow_form hyG1; clear hyG1; have oG'1 := oF1.trans oG1; rw [hs0])
    | (go_at_call 14; refine (HP.out (some ⟨tb, 0, none⟩) _ (O3.trans oG'1) (hD1.old (o23.trans oG'1))).mono ?_; rintro e wH1 ⟨⟨yH1, rfl, hyH1⟩, oH1⟩; obtain ⟨aH1, cH1, rfl, _, _⟩ := ownsRow_form hyH1; clear hyH1; have oH'1 := oG'1.trans oH1; rw [hp0])
    | (go_at_call 13; refine (HR.out (some ⟨tb, 0, none⟩) _ (O3.trans oH'1) (hD1.old (o23.trans oH'1))).mono ?_; rintro e wI1 ⟨⟨yI1, rfl, hyI1⟩, oI1⟩; obtain ⟨aI1, cI1, rfl, _, _⟩ := ownsRow_form hyI1; clear hyI1; have oI'1 := oH'1.trans oI1; rw [hr0]))
  rw [rounds_succ]
  have hK0' : wI1.heap[D0]? = some (.deferred (some [])) := (((((((oA1.trans oB1).trans (oVB1)).trans ok1).trans oE1).trans oG1).trans oH1).trans oI1 |>.block D0 (lt_of_heap hK1')).trans hK1'
  have hK1 : wI1.heap[D1]? = some (.deferred (some [])) := ((((oE1.trans oG1).trans oH1).trans oI1).block D1 (lt_of_heap hK1)).trans hK1
  have hne : D0 ≠ D1 := by have h1 := lt_of_heap hK1'; have h2 := (oA1.trans oB1).size; omega
  have b4 : Boxed wI1 W.heap.size 4 (.bool false) := ((oI'1).block _ bR3.lt).trans bR3
  have cb4 := b4.cell
  have fb4 := b4.frozen
  have OI : Old W wI1 := O3.trans oI'1
  clear oE1 oG1 oH1 oI1
  go_wp2_with fail
  have b5 := b4.set (.bool true)
  have O5 : Old W (wI1.setCell ⟨W.heap.size, 0, none⟩ (.bool true)) := OI.setCell (Nat.le_refl _) _
  have hd1 := hK1' |> lt_of_heap
  have hd2 := hK1 |> lt_of_heap
  have bl : W.heap.size ≠ D0 := by omega
  have bl1 : W.heap.size ≠ D1 := by omega
  generalize hw9 : wI1.setCell ⟨W.heap.size, 0, none⟩ (.bool true) = w9 at *
  have hK9 : w9.heap[D0]? = some (.deferred (some [])) := by rw [← hw9]; exact (heap_setCell_ne _ _ _ _ (Ne.symm bl)).trans hK0'
  have hK8 : w9.heap[D1]? = some (.deferred (some [])) := by rw [← hw9]; exact (heap_setCell_ne _ _ _ _ (Ne.symm bl1)).trans hK1
  refine ⟨by simp, .inl ⟨_, _, rfl, run_takeDeferred hK8, ?_⟩⟩
  have hK7 : (w9.putObj D1 (.deferred none)).heap[D0]? = some (.deferred (some [])) := (World.putObj_heap_other hne).trans hK9
  have O7 : Old W (w9.putObj D1 (.deferred none)) := O5.grown (grownBy_putObj' _ _ _) (fun k e => by have := Option.some.inj e; omega)
  have b7 : Boxed (w9.putObj D1 (.deferred none)) W.heap.size 4 (.bool true) := (World.putObj_heap_other bl1).trans b5
  refine ⟨by simp, .inl ⟨_, _, rfl, run_takeDeferred hK7, ?_⟩⟩
  generalize w9.putObj D1 (.deferred none) = w7 at *
  have O6 : Old W (w7.putObj D0 (.deferred none)) := O7.grown (grownBy_putObj' _ _ _) (fun k e => by have := Option.some.inj e; omega)
  have b6 : Boxed (w7.putObj D0 (.deferred none)) W.heap.size 4 (.bool true) := (World.putObj_heap_other bl).trans b7
  generalize w7.putObj D0 (.deferred none) = w6 at *
  have c6 := b6.cell
  refine ⟨.bool true, by simp [results, Tryd.results7, go_sem, c6], ?_⟩
  exact ⟨rfl, O6⟩
end Go.Proofs.YtpifkinlaicliaaDoor
