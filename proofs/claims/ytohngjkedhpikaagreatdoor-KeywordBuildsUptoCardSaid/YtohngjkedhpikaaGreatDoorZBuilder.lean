/-
  TEXT, COMPARE: two texts.
-/
import Derived.Test.YtohngjkedhpikaaGreatDoorZTextCompare3
import Derived.Test.YtohngjkedhpikaaGreatDoorZShelf02
import Derived.Test.YtohngjkedhpikaaGreatDoorZBase
import Derived.Lib.RuneBytes
namespace Go.Proofs.YtohngjkedhpikaaGreatDoor
open Go.RowKit
attribute [local go_sem] Old.refl Old.alloc Old.drew Old.setCell OldW.old

theorem str_beq (a b : ByteArray) : (a.toList == b.toList) = decide (a = b) := by
  rw [ByteArray.toList_eq, ByteArray.toList_eq, Bool.eq_iff_iff, beq_iff_eq, decide_eq_true_iff]
  exact ⟨fun h => ByteArray.ext (Array.toList_inj.1 h), fun h => by rw [h]⟩
/-- two texts compared -/
def compareT (a b : ByteArray) : Int :=
  if a = b then 0 else orL [lexL cmpEl (elsS a) (elsS b), lexL (byF smallC) (runesI a) (runesI b), lexL (byF id) (runesI a) (runesI b), Lib.compareBytes a.data.toList b.data.toList]
set_option maxRecDepth 100000 in
set_option maxHeartbeats 1600000 in
theorem Compare_any (a b : ByteArray) (w : World) (hT : Tabs w) (ha : a.size ≤ 4194304) (hb : b.size ≤ 4194304) :
    Calls Tryz.prog 47 #[.string a, .string b] w fun e w' => e = .returned (.int .i64 (compareT a b)) ∧ Old w w' := by
  by_cases h : a = b
  · have Hs := Lib.hid (show compareT a b = 0 from if_pos h)
    have hs : (a.toList == b.toList) = true := by rw [str_beq]; simpa using h
    clear h
    go_enter Tryz.func47, Tryz.ntmps47
    go_wp2_with fail
    go_ret
    exact ⟨by rw [Hs.out]; rfl, Old.refl _⟩
  · have Hs := Lib.hid (show compareT a b = _ from if_neg h)
    have hs : (a.toList == b.toList) = false := by rw [str_beq]; simpa using h
    clear h
    have H1 := Lib.hid (fun V (o : Old w V) => byElements_any a b V (hT.old o) ha hb)
    have H2 := Lib.hid (fun V => byRunes_small a b V ha hb)
    have H3 := Lib.hid (fun V => byRunes_same a b V ha hb)
    have H4 := Lib.hid (fun V => Tryz.strings_Compare a b V)
    generalize lexL cmpEl (elsS a) (elsS b) = c1 at *
    generalize lexL (byF smallC) (runesI a) (runesI b) = c2 at *
    generalize lexL (byF id) (runesI a) (runesI b) = c3 at *
    generalize Lib.compareBytes a.data.toList b.data.toList = c4 at *
    go_enter Tryz.func47, Tryz.ntmps47
    go_wp2_with fail
    refine (H1.out _ (Old.refl w)).mono ?_
    rintro e w1 ⟨rfl, ho1⟩
    go_wp2_with fail
    refine (H2.out _).mono ?_
    rintro e w2 ⟨rfl, ho2⟩
    go_wp2_with fail
    refine (H3.out _).mono ?_
    rintro e w3 ⟨rfl, ho3⟩
    go_wp2_with fail
    refine (H4.out _).mono ?_
    rintro e w4 ⟨rfl, rfl⟩
    go_wp2_with fail
    refine (Or_any _ [c1, c2, c3, c4] _ (Nums.fresh _ 3 _)).mono ?_
    rintro e w5 ⟨rfl, rfl⟩
    go_wp2_with fail
    go_ret
    exact ⟨by rw [Hs.out]; rfl, ((ho1.trans ho2).trans ho3).alloc _⟩
end Go.Proofs.YtohngjkedhpikaaGreatDoor
/-
  TEXT, ORDER: that two texts' comparison is an order of all texts, over no program.
-/

namespace Go.Proofs.YtohngjkedhpikaaGreatDoor
open Go.RowKit

/-- a comparison, among those that R holds of -/
structure CmpOn {α : Type} (R : α → α → Prop) (f : α → α → Int) : Prop where
  rng : ∀ a b, R a b → f a b = -1 ∨ f a b = 0 ∨ f a b = 1
  anti : ∀ a b, R a b → f b a = -f a b
  trans : ∀ a b c, R a b → R b c → R a c → f a b ≤ 0 → f b c ≤ 0 → f a c ≤ 0
def All {α : Type} : α → α → Prop := fun _ _ => True
abbrev Cmp {α : Type} (f : α → α → Int) : Prop := CmpOn All f
section
variable {α : Type} {f g : α → α → Int}
theorem Cmp.r (h : Cmp f) (a b : α) : f a b = -1 ∨ f a b = 0 ∨ f a b = 1 := h.rng a b trivial
theorem Cmp.an (h : Cmp f) (a b : α) : f b a = -f a b := h.anti a b trivial
theorem Cmp.tr (h : Cmp f) {a b c : α} (h1 : f a b ≤ 0) (h2 : f b c ≤ 0) : f a c ≤ 0 := h.trans a b c trivial trivial trivial h1 h2
theorem Cmp.self (h : Cmp f) (a : α) : f a a = 0 := by have := h.an a a; omega
theorem Cmp.zero_left (h : Cmp f) {a b : α} (h0 : f a b = 0) (c : α) : f a c = f b c := by
  have h1 := h.an a b
  have t1 : f b c ≤ 0 → f a c ≤ 0 := fun k => h.tr (by omega) k
  have t2 : f a c ≤ 0 → f b c ≤ 0 := fun k => h.tr (by omega) k
  have t3 : f c b ≤ 0 → f c a ≤ 0 := fun k => h.tr k (by omega)
  have t4 : f c a ≤ 0 → f c b ≤ 0 := fun k => h.tr k (by omega)
  have e1 := h.an a c
  have e2 := h.an b c
  have r1 := h.r a c
  have r2 := h.r b c
  omega
theorem Cmp.zero_trans (h : Cmp f) {a b c : α} (h1 : f a b = 0) (h2 : f b c = 0) : f a c = 0 := by rw [h.zero_left h1]; exact h2
/-- first by the one, then by the other -/
def seqC (f g : α → α → Int) (a b : α) : Int := if f a b = 0 then g a b else f a b
theorem seq_on {R : α → α → Prop} (h : Cmp f) (hR : ∀ a b, f a b = 0 → R a b) (k : CmpOn R g) : Cmp (seqC f g) where
  rng a b _ := by
    unfold seqC
    split
    · exact k.rng a b (hR a b ‹_›)
    · exact h.r a b
  anti a b _ := by
    unfold seqC
    have e := h.an a b
    by_cases h0 : f a b = 0
    · rw [if_pos (by omega), if_pos h0, k.anti a b (hR a b h0)]
    · rw [if_neg (by omega), if_neg h0, e]
  trans a b c _ _ _ h1 h2 := by
    unfold seqC at *
    by_cases a1 : f a b = 0
    · rw [if_pos a1] at h1
      have e := h.zero_left a1 c
      by_cases a2 : f b c = 0
      · rw [if_pos a2] at h2
        rw [if_pos (by omega)]
        exact k.trans a b c (hR _ _ a1) (hR _ _ a2) (hR _ _ (by omega)) h1 h2
      · rw [if_neg a2] at h2
        rw [if_neg (by omega)]; omega
    · rw [if_neg a1] at h1
      by_cases a2 : f b c = 0
      · have e1 := h.zero_left (a := c) (b := b) (by have := h.an b c; omega) a
        have e2 := h.an a c
        have e3 := h.an a b
        rw [if_neg (by omega)]; omega
      · rw [if_neg a2] at h2
        have h3 := h.tr h1 h2
        by_cases a3 : f a c = 0
        · exfalso
          have e := h.zero_left a3 b
          have e2 := h.an b c
          have r1 := h.r a b
          have r2 := h.r b c
          omega
        · rw [if_neg a3]; exact h3
theorem seq_cmp (h : Cmp f) (k : Cmp g) : Cmp (seqC f g) := seq_on h (fun _ _ _ => trivial) k
theorem lexL_cmp (h : Cmp f) : Cmp (lexL f) where
  rng a b _ := by
    induction a generalizing b with
    | nil => cases b <;> simp [lexL]
    | cons x a ih =>
      cases b with
      | nil => simp [lexL]
      | cons y b =>
        unfold lexL
        split
        · exact ih b trivial
        · exact h.r x y
  anti a b _ := by
    induction a generalizing b with
    | nil => cases b <;> simp [lexL]
    | cons x a ih =>
      cases b with
      | nil => simp [lexL]
      | cons y b =>
        unfold lexL
        have e := h.an x y
        by_cases h0 : f x y = 0
        · rw [if_pos (by omega), if_pos h0, ih b trivial]
        · rw [if_neg (by omega), if_neg h0, e]
  trans a b c _ _ _ := by
    induction a generalizing b c with
    | nil => intro _ _; cases c <;> simp [lexL]
    | cons x a ih =>
      intro h1 h2
      cases b with
      | nil => simp [lexL] at h1
      | cons y b =>
        cases c with
        | nil => simp [lexL] at h2
        | cons z c =>
          unfold lexL at h1 h2 ⊢
          by_cases a1 : f x y = 0
          · rw [if_pos a1] at h1
            have e := h.zero_left a1 z
            by_cases a2 : f y z = 0
            · rw [if_pos a2] at h2
              rw [if_pos (by omega)]
              exact ih b c trivial trivial trivial h1 h2
            · rw [if_neg a2] at h2
              rw [if_neg (by omega)]; omega
          · rw [if_neg a1] at h1
            by_cases a2 : f y z = 0
            · have e1 := h.zero_left (a := z) (b := y) (by have := h.an y z; omega) x
              have e2 := h.an x z
              have e3 := h.an x y
              rw [if_neg (by omega)]; omega
            · rw [if_neg a2] at h2
              have h3 := h.tr h1 h2
              by_cases a3 : f x z = 0
              · exfalso
                have e := h.zero_left a3 y
                have e2 := h.an y z
                have r1 := h.r x y
                have r2 := h.r y z
                omega
              · rw [if_neg a3]; exact h3
end
theorem int_cmp {α : Type} (g : α → Int) : Cmp (fun a b => Lib.compareInt (g a) (g b)) where
  rng a b _ := by
    unfold Lib.compareInt
    split
    · exact .inl rfl
    · split
      · exact .inr (.inr rfl)
      · exact .inr (.inl rfl)
  anti a b _ := by
    show Lib.compareInt (g b) (g a) = -Lib.compareInt (g a) (g b)
    unfold Lib.compareInt
    rcases Int.lt_trichotomy (g a) (g b) with h | h | h
    · rw [if_neg (by omega), if_pos (by omega), if_pos h]; rfl
    · rw [if_neg (by omega), if_neg (by omega), if_neg (by omega), if_neg (by omega)]; rfl
    · rw [if_pos (by omega), if_neg (by omega), if_pos (by omega)]
  trans a b c _ _ _ := by
    intro h1 h2
    have k : ∀ x y : Int, Lib.compareInt x y ≤ 0 ↔ x ≤ y := by
      intro x y
      unfold Lib.compareInt
      split
      · constructor <;> intro <;> omega
      · split
        · constructor <;> intro <;> omega
        · constructor <;> intro <;> omega
    have h1' := (k _ _).1 h1
    have h2' := (k _ _).1 h2
    exact (k _ _).2 (by omega)
theorem bytes_lex : ∀ a b : List UInt8, Lib.compareBytes a b = lexL (fun x y : UInt8 => Lib.compareInt x.toNat y.toNat) a b
  | [], [] => rfl
  | [], _ :: _ => rfl
  | _ :: _, [] => rfl
  | x :: a, y :: b => by
    have ih := bytes_lex a b
    have e1 : Lib.compareBytes (x :: a) (y :: b) = if x < y then -1 else if y < x then 1 else Lib.compareBytes a b := rfl
    have e2 : lexL (fun x y : UInt8 => Lib.compareInt x.toNat y.toNat) (x :: a) (y :: b) = if Lib.compareInt x.toNat y.toNat = 0 then lexL (fun x y : UInt8 => Lib.compareInt x.toNat y.toNat) a b else Lib.compareInt x.toNat y.toNat := rfl
    rw [e1, e2, ih]
    rcases Nat.lt_trichotomy x.toNat y.toNat with h | h | h
    · have c : Lib.compareInt (x.toNat : Int) y.toNat = -1 := by unfold Lib.compareInt; rw [if_pos (by omega)]
      rw [if_pos (UInt8.lt_iff_toNat_lt.2 h), c, if_neg (by decide)]
    · have c : Lib.compareInt (x.toNat : Int) y.toNat = 0 := by unfold Lib.compareInt; rw [if_neg (by omega), if_neg (by omega)]
      rw [if_neg (fun k => by have := UInt8.lt_iff_toNat_lt.1 k; omega), if_neg (fun k => by have := UInt8.lt_iff_toNat_lt.1 k; omega), c, if_pos rfl]
    · have c : Lib.compareInt (x.toNat : Int) y.toNat = 1 := by unfold Lib.compareInt; rw [if_neg (by omega), if_pos (by omega)]
      rw [if_neg (fun k => by have := UInt8.lt_iff_toNat_lt.1 k; omega), if_pos (UInt8.lt_iff_toNat_lt.2 h), c, if_neg (by decide)]
theorem bytes_cmp : Cmp Lib.compareBytes := by
  have : Lib.compareBytes = lexL (fun x y : UInt8 => Lib.compareInt x.toNat y.toNat) := by funext a b; exact bytes_lex a b
  rw [this]
  exact lexL_cmp (int_cmp _)
theorem bytes_zero : ∀ {a b : List UInt8}, Lib.compareBytes a b = 0 → a = b := by
  intro a
  induction a with
  | nil => intro b h; cases b with
    | nil => rfl
    | cons _ _ => rw [bytes_lex] at h; simp [lexL] at h
  | cons x a ih => intro b h; cases b with
    | nil => rw [bytes_lex] at h; simp [lexL] at h
    | cons y b =>
      rw [bytes_lex] at h
      unfold lexL at h
      by_cases h0 : Lib.compareInt (x.toNat : Int) y.toNat = 0
      · rw [if_pos h0, ← bytes_lex] at h
        have e := compareInt_eq h0
        have : x = y := UInt8.toNat_inj.1 (by omega)
        rw [this, ih h]
      · rw [if_neg h0] at h; exact absurd h h0
theorem orL_two (a b : Int) : orL [a, b] = if a = 0 then b else a := by
  unfold orL
  split
  · unfold orL
    split
    · rename_i h; rw [h]; rfl
    · rfl
  · rfl
theorem cmpEl_cmp : Cmp cmpEl := by
  have hg : CmpOn (fun a b : El => a.k = b.k) (fun a b => if a.k = 1 then seqC (fun a b : El => Lib.compareInt a.d.size b.d.size) (fun a b : El => Lib.compareBytes a.d.data.toList b.d.data.toList) a b else Lib.compareInt a.r b.r) := by
    have hs : Cmp (fun a b : El => Lib.compareInt a.d.size b.d.size) := int_cmp (fun a : El => (a.d.size : Int))
    have hb : Cmp (fun a b : El => Lib.compareBytes a.d.data.toList b.d.data.toList) := ⟨fun _ _ _ => bytes_cmp.r _ _, fun _ _ _ => bytes_cmp.an _ _, fun _ _ _ _ _ _ h1 h2 => bytes_cmp.tr h1 h2⟩
    have h1 := seq_cmp hs hb
    have h2 : Cmp (fun a b : El => Lib.compareInt a.r b.r) := int_cmp (fun a : El => (a.r : Int))
    refine ⟨fun a b _ => ?_, fun a b e => ?_, fun a b c e1 e2 e3 => ?_⟩
    · split
      · exact h1.r a b
      · exact h2.r a b
    · by_cases h : a.k = 1
      · rw [if_pos (by rw [← e]; exact h), if_pos h]; exact h1.an a b
      · rw [if_neg (by rw [← e]; exact h), if_neg h]; exact h2.an a b
    · by_cases h : a.k = 1
      · rw [if_pos h, if_pos (by rw [← e1]; exact h), if_pos h]; exact fun k1 k2 => h1.tr k1 k2
      · rw [if_neg h, if_neg (by rw [← e1]; exact h), if_neg h]; exact fun k1 k2 => h2.tr k1 k2
  have hk : Cmp (fun a b : El => Lib.compareInt a.k b.k) := int_cmp (fun a : El => (a.k : Int))
  have hall := seq_on hk (R := fun a b : El => a.k = b.k) (fun a b h => by have := compareInt_eq h; omega) hg
  have e : cmpEl = seqC (fun a b : El => Lib.compareInt a.k b.k) (fun a b => if a.k = 1 then seqC (fun a b : El => Lib.compareInt a.d.size b.d.size) (fun a b : El => Lib.compareBytes a.d.data.toList b.d.data.toList) a b else Lib.compareInt a.r b.r) := by
    funext a b
    unfold cmpEl seqC
    by_cases h : Lib.compareInt (a.k : Int) b.k = 0
    · rw [if_neg (by simpa using h), if_pos h, orL_two]
    · rw [if_pos h, if_neg h]
  rw [e]; exact hall
/-- the four comparisons, one behind the other -/
def allC : ByteArray → ByteArray → Int :=
  seqC (fun a b => lexL cmpEl (elsS a) (elsS b)) (seqC (fun a b => lexL (byF smallC) (runesI a) (runesI b)) (seqC (fun a b => lexL (byF id) (runesI a) (runesI b)) (fun a b => Lib.compareBytes a.data.toList b.data.toList)))
theorem pull {α β : Type} {f : β → β → Int} (h : Cmp f) (g : α → β) : Cmp (fun a b => f (g a) (g b)) := ⟨fun _ _ _ => h.r _ _, fun _ _ _ => h.an _ _, fun _ _ _ _ _ _ h1 h2 => h.tr h1 h2⟩
theorem allC_cmp : Cmp allC :=
  seq_cmp (pull (lexL_cmp cmpEl_cmp) elsS) (seq_cmp (pull (lexL_cmp (f := byF smallC) (int_cmp smallC)) runesI) (seq_cmp (pull (lexL_cmp (f := byF id) (int_cmp id)) runesI) (pull bytes_cmp (fun s : ByteArray => s.data.toList))))
theorem allC_or (a b : ByteArray) : orL [lexL cmpEl (elsS a) (elsS b), lexL (byF smallC) (runesI a) (runesI b), lexL (byF id) (runesI a) (runesI b), Lib.compareBytes a.data.toList b.data.toList] = allC a b := by
  unfold allC seqC
  unfold orL
  split
  · unfold orL
    split
    · rw [orL_two]
    · rfl
  · rfl
theorem compareT_eq (a b : ByteArray) : compareT a b = allC a b := by
  unfold compareT
  split
  · rename_i h; rw [h, allC_cmp.self]
  · exact allC_or a b
theorem compareT_zero {a b : ByteArray} : compareT a b = 0 ↔ a = b := by
  constructor
  · intro h
    by_cases e : a = b
    · exact e
    · rw [compareT, if_neg e, allC_or] at h
      unfold allC seqC at h
      split at h
      · split at h
        · split at h
          · exact ByteArray.ext (Array.toList_inj.1 (bytes_zero h))
          · exact absurd h ‹_›
        · exact absurd h ‹_›
      · exact absurd h ‹_›
  · intro h; rw [compareT, if_pos h]
theorem compareT_rng (a b : ByteArray) : -1 ≤ compareT a b ∧ compareT a b ≤ 1 := by rw [compareT_eq]; have := allC_cmp.r a b; omega
theorem compareT_anti (a b : ByteArray) : compareT b a = -compareT a b := by rw [compareT_eq, compareT_eq]; exact allC_cmp.an a b
theorem compareT_trans {a b c : ByteArray} (h1 : compareT a b ≤ 0) (h2 : compareT b c ≤ 0) : compareT a c ≤ 0 := by rw [compareT_eq] at *; exact allC_cmp.tr h1 h2
end Go.Proofs.YtohngjkedhpikaaGreatDoor
/-
  strings.Builder AT THIS DUMP: its writers (a builder that the call has made, only written since).
-/



namespace Go.Proofs.YtohngjkedhpikaaGreatDoor
open Go.RowKit

def Bld (B b : Nat) (bs : List Value) (w : World) : Prop := Lib.IsBuilder 143 5 B b bs w
def BldAt (B b : Nat) (bs : List Value) (w : World) : Prop := Lib.BuilderAt 143 5 B b (.pointer (some ⟨b, 0, none⟩)) bs w
theorem infoB : (Tryz.prog.info? 5).map (fun i => (i.zero, i.size, i.bytes)) = some (some (.int .u8 0), 1, 1) := by kernel_rfl
theorem sizeB : (Tryz.prog.info? 143).map (·.size) = some 2 := by kernel_rfl
set_option maxHeartbeats 1000000 in
set_option maxRecDepth 100000 in
theorem copyCheck_used (b : Nat) (w : World) (h0 : w.cell? ⟨b, 0, none⟩ = some (.pointer (some ⟨b, 0, none⟩))) :
    Calls Tryz.prog 141 #[.pointer (some ⟨b, 0, none⟩)] w fun e w' => e = .returned (.tuple #[]) ∧ w' = w := by
  obtain ⟨j, hj, _⟩ := Option.map_eq_some_iff.1 sizeB
  go_enter Tryz.func141, Tryz.ntmps141
  go_wp2
  rw [Lib.run_neq_ptr_same w _ Tryz.underlying140 hj]
  go_wp2
  go_end0
  exact ⟨rfl, rfl⟩
set_option maxHeartbeats 1000000 in
set_option maxRecDepth 100000 in
theorem copyCheck_fresh (b : Nat) (w : World) (h0 : w.cell? ⟨b, 0, none⟩ = some (.pointer none)) (hsh : w.shape? b = some (143, 2)) (hfz : w.frozen? ⟨b, 0, none⟩ = false) :
    Calls Tryz.prog 141 #[.pointer (some ⟨b, 0, none⟩)] w fun e w' => e = .returned (.tuple #[]) ∧ w' = w.setCell ⟨b, 0, none⟩ (.pointer (some ⟨b, 0, none⟩)) := by
  obtain ⟨j, hj, hjs⟩ := Option.map_eq_some_iff.1 sizeB
  go_enter Tryz.func141, Tryz.ntmps141
  go_wp2
  rw [Lib.run_to_unsafe w ⟨b, 0, none⟩ Tryz.underlying140 Tryz.underlying232 hj (by rw [hjs]; decide) hsh (Nat.zero_lt_succ 1)]
  simp only [Result.andThen]
  rw [Oper.upon_value]
  go_wp2
  rw [run_callFunc_extern Tryz.func173 (by kernel_rfl) (by kernel_rfl) (by kernel_rfl) (e := Extern.AbiNoEscape.same) (by kernel_rfl)]
  rw [Lib.run_noEscape]
  simp only [Result.andThen]
  rw [Oper.upon_value]
  go_wp2
  rw [Lib.run_from_unsafe w ⟨b, 0, none⟩ Tryz.underlying232 Tryz.underlying140 hj hsh (by kernel_rfl)]
  simp only [Result.andThen]
  rw [Oper.upon_value]
  go_wp2
  go_end0
  exact ⟨rfl, rfl⟩
theorem copyCheck_any (B b : Nat) (bs : List Value) (w : World) (h : Bld B b bs w) :
    Calls Tryz.prog 141 #[.pointer (some ⟨b, 0, none⟩)] w fun e w' => e = .returned (.tuple #[]) ∧ BldAt B b bs w' ∧ Below B w w' := by
  rcases h with h | h
  · refine (copyCheck_fresh b w h.cell0 h.shape h.frozen0).mono ?_
    rintro e w' ⟨rfl, rfl⟩
    exact ⟨rfl, h.used _, (Below.refl B w).setCell (p := ⟨b, 0, none⟩) h.1 _⟩
  · refine (copyCheck_used b w h.cell0).mono ?_
    rintro e w' ⟨rfl, rfl⟩
    exact ⟨rfl, h, Below.refl B _⟩
set_option maxHeartbeats 1000000 in
set_option maxRecDepth 100000 in
theorem WriteByte_any (B b : Nat) (bs : List Value) (c : Int) (w : World) (h : Bld B b bs w) (hlen : bs.length + 1 ≤ 140737488355328) (hBw : B ≤ w.heap.size) :
    Calls Tryz.prog 99 #[.pointer (some ⟨b, 0, none⟩), .int .u8 c] w fun e w' => e = .returned .nilIface ∧ (BldAt B b (bs ++ [.int .u8 c]) w' ∧ Below B w w') := by
  obtain ⟨i0, hi, hz0, hz1, hz2⟩ := info_parts infoB
  go_enter Tryz.func99, Tryz.ntmps99
  go_wp2_with (go_at_call 141; refine (copyCheck_any B b bs _ h).mono ?_)
  rintro e w1 ⟨rfl, h1, hb1⟩
  obtain ⟨hB, v, hbk, hown, hne⟩ := h1
  have c0 : w1.cell? ⟨b, 0, none⟩ = some (.pointer (some ⟨b, 0, none⟩)) := by rw [Lib.cell_of_heap hbk]; rfl
  have c1 : w1.cell? ⟨b, 1, none⟩ = some v := by rw [Lib.cell_of_heap hbk]; rfl
  go_wp2_with (at_builtin; refine wpList_append_own _ rfl _ _ 141 rfl B 5 i0 (.int .u8 0) 1 1 Tryz.underlying141 hi hz0 hz1 hz2 rfl (by decide) _ _ _ rfl (hown.alloc _) ⟨w1.heap.size, 0, none⟩ 1 1 [.int .u8 c] rfl rfl ?c1 ?c2 ?c3 ?c4 ?c5 ?_)
  case c1 =>
    intro j u hj
    match j, hj with
    | 0, hj => simp at hj; subst hj; simp [Addr.add]
  case c2 => intro u hu; simp at hu; subst hu; rfl
  case c3 => unfold maxLen; omega
  case c4 => omega
  case c5 => have := hb1.size; simp; omega
  intro v' w2 hown' hgrow _
  have hlt : b < w1.heap.size := by
    rcases Nat.lt_or_ge b w1.heap.size with h' | h'
    · exact h'
    · simp [Array.getElem?_eq_none h'] at hbk
  have hb2 : w2.heap[b]? = some (.cells #[.pointer (some ⟨b, 0, none⟩), v] 143 (0, 0)) := by
    rw [hgrow.block b (by simp; omega) (fun e => hne e.symm), Lib.alloc_old w1 _ b hlt]
    exact hbk
  have d0 : w2.cell? ⟨b, 0, none⟩ = some (.pointer (some ⟨b, 0, none⟩)) := by rw [Lib.cell_of_heap hb2]; rfl
  have d1 : w2.cell? ⟨b, 1, none⟩ = some v := by rw [Lib.cell_of_heap hb2]; rfl
  have f1 : w2.frozen? ⟨b, 1, none⟩ = false := Lib.frozen_of_heap hb2 1
  obtain ⟨g, cap, rfl⟩ : ∃ g cap, v' = .slice (some ⟨g, 0, none⟩) (bs.length + 1) cap := by
    rcases hown'.2 with ⟨_, h0⟩ | ⟨g, cap, cur, hv, _⟩
    · omega
    · exact ⟨g, cap, hv⟩
  go_wp2
  go_ret
  refine ⟨rfl, ?_, ?_⟩
  · exact Lib.BuilderAt.put (T := 143) (e := 5) hB hb2 (bs' := bs ++ [.int .u8 c]) (by simpa using hown') (by decide)
  · exact ((hb1.alloc (by have := hb1.size; omega) _).grown hgrow (by have := hb1.size; simp; omega) (fun k hk => (hown.lt k hk).1)).setCell (p := ⟨b, 1, none⟩) hB _
set_option maxHeartbeats 2000000 in
set_option maxRecDepth 100000 in
theorem WriteRune_any (B b : Nat) (bs : List Value) (r : Int) (hr0 : -2147483648 ≤ r) (hr1 : r ≤ 2147483647) (w : World) (h : Bld B b bs w) (hlen : bs.length + 4 ≤ 140737488355328) (hBw : B ≤ w.heap.size) :
    Calls Tryz.prog 100 #[.pointer (some ⟨b, 0, none⟩), .int .i32 r] w fun e w' => e = .returned (.tuple #[.int .i64 (Lib.runeCells r).length, .nilIface]) ∧ (BldAt B b (bs ++ Lib.runeCells r) w' ∧ Below B w w') := by
  have hk4 := Lib.runeCells_le r
  go_enter Tryz.func100, Tryz.ntmps100
  go_wp2_with (go_at_call 141; refine (copyCheck_any B b bs _ h).mono ?_)
  rintro e w1 ⟨rfl, h1, hb1⟩
  obtain ⟨hB, v, hbk, hown, hne⟩ := h1
  obtain ⟨ao, cap, rfl⟩ : ∃ ao cap, v = .slice ao bs.length cap := by
    rcases hown.2 with ⟨hv, h0⟩ | ⟨g, cap, cur, hv, _⟩
    · exact ⟨none, 0, by rw [hv, h0]⟩
    · exact ⟨_, _, hv⟩
  have c0 : w1.cell? ⟨b, 0, none⟩ = some (.pointer (some ⟨b, 0, none⟩)) := by rw [Lib.cell_of_heap hbk]; rfl
  have c1 : w1.cell? ⟨b, 1, none⟩ = some (.slice ao bs.length cap) := by rw [Lib.cell_of_heap hbk]; rfl
  go_wp2_with (go_at_call 142; refine (Tryz.utf8_AppendRune_plain B _ bs.length bs r hr0 hr1 _ hown hlen (by have := hb1.size; omega)).mono ?_)
  rintro e w2 ⟨v', rfl, hown', o, hgrow⟩
  have hlt : b < w1.heap.size := by
    rcases Nat.lt_or_ge b w1.heap.size with h' | h'
    · exact h'
    · simp [Array.getElem?_eq_none h'] at hbk
  have hb2 : w2.heap[b]? = some (.cells #[.pointer (some ⟨b, 0, none⟩), .slice ao bs.length cap] 143 (0, 0)) := by
    rw [hgrow.block b (by simp; omega) (fun e => hne e.symm), Lib.alloc_old w1 _ b hlt]
    exact hbk
  have d0 : w2.cell? ⟨b, 0, none⟩ = some (.pointer (some ⟨b, 0, none⟩)) := by rw [Lib.cell_of_heap hb2]; rfl
  have d1 : w2.cell? ⟨b, 1, none⟩ = some (.slice ao bs.length cap) := by rw [Lib.cell_of_heap hb2]; rfl
  have f1 : w2.frozen? ⟨b, 1, none⟩ = false := Lib.frozen_of_heap hb2 1
  have hp4 := Lib.encodeRuneZ_length r
  have hrl : (Lib.runeCells r).length = (Lib.encodeRuneZ r).length := by simp [Lib.runeCells]
  obtain ⟨g, cap', rfl⟩ : ∃ g cap', v' = .slice (some ⟨g, 0, none⟩) (bs.length + (Lib.runeCells r).length) cap' := by
    rcases hown'.2 with ⟨_, h0⟩ | ⟨g, cap', cur, hv, _⟩
    · omega
    · exact ⟨g, cap', hv⟩
  clear hrl hp4
  go_wp2
  go_ret2
  refine ⟨?_, ?_, ?_⟩
  · have e : ((bs.length : Int) + ((Lib.runeCells r).length : Int) - (bs.length : Int)) = ((Lib.runeCells r).length : Int) := by omega
    simp [e]
  · exact Lib.BuilderAt.put (T := 143) (e := 5) hB hb2 (bs' := bs ++ Lib.runeCells r) (by simpa using hown') (by decide)
  · exact ((hb1.alloc (by have := hb1.size; omega) _).grown hgrow (by have := hb1.size; simp; omega) (fun k hk => (hown.lt k hk).1)).setCell (p := ⟨b, 1, none⟩) hB _
end Go.Proofs.YtohngjkedhpikaaGreatDoor
