/-
  A NAME's NORM: the program's, the document's.
-/
import Derived.Test.YtpifkinlaicliaaGreatDoorZTextRefF
namespace Go.Proofs.YtpifkinlaicliaaGreatDoor
open Go.RowKit
attribute [local go_sem] Old.refl Old.alloc Old.drew Old.setCell OldW.old

/-- what counts of a name, and the error's number -/
def normR (s : ByteArray) : ByteArray × Int :=
  if 64 < s.size then (⟨#[]⟩, 2) else if (plainAt s.data.toList 0).2 = false then (⟨#[]⟩, 70) else if foldS s = ⟨#[]⟩ then (⟨#[]⟩, 70) else (foldS s, 0)
theorem normR_err (s : ByteArray) : (normR s).2 = 0 ∨ (normR s).2 = 2 ∨ (normR s).2 = 70 := by
  unfold normR
  repeat' split
  all_goals simp
theorem normR_bad {s : ByteArray} (h : ¬ (normR s).2 = 0) : (normR s).1 = ⟨#[]⟩ := by
  unfold normR at h ⊢
  repeat' split
  all_goals simp_all
theorem normR_ok {s : ByteArray} (h : (normR s).2 = 0) : (normR s).1 = foldS s ∧ foldS s ≠ ⟨#[]⟩ ∧ s.size ≤ 64 ∧ (plainAt s.data.toList 0).2 = true := by
  unfold normR at h ⊢
  repeat' split
  all_goals simp_all
theorem str_nil {s : ByteArray} (h : ¬ s = ⟨#[]⟩) : s.toList.isEmpty = false := by
  rw [ByteArray.toList_eq, List.isEmpty_eq_false_iff]
  intro e
  exact h (ByteArray.ext (Array.toList_inj.1 e))
theorem foldC_len (s : ByteArray) (p : Nat) : (foldC s p).length ≤ 4 := by
  unfold foldC
  split
  · simp
  · have h := Lib.runeCells_le (smallC (chR s.data.toList p))
    rw [Lib.runeCells_length] at h
    exact h.2
theorem foldGo_len (s : ByteArray) : ∀ (d p : Nat) (wt : Bool) (t : List UInt8), s.size - p = d → (foldGo s p wt t).length ≤ t.length + 5 * d := fun d => by
  induction d using Nat.strongRecOn with
  | _ d ih =>
    intro p wt t hd
    by_cases hp : p < s.size
    · by_cases h : chR s.data.toList p = 32
      · rw [foldGo_sp hp h]
        have := ih (d - 1) (by omega) (p + 1) (decide (0 < t.length)) t (by omega)
        omega
      · rw [foldGo_on hp h]
        have h1 := chN_pos s.data.toList p
        have := ih (s.size - (p + chN s.data.toList p)) (by omega) (p + chN s.data.toList p) false ((if wt then t ++ [32] else t) ++ foldC s p) rfl
        have h3 := foldC_len s p
        have h4 : (if wt then t ++ [32] else t).length ≤ t.length + 1 := by split <;> simp
        rw [List.length_append] at this
        omega
    · rw [foldGo_end hp]; omega
theorem foldS_le (s : ByteArray) : (foldS s).size ≤ 5 * s.size := by
  have h := foldGo_len s s.size 0 false [] (by omega)
  unfold foldS foldB
  have e : ∀ l : List UInt8, (⟨l.toArray⟩ : ByteArray).size = l.length := fun l => rfl
  rw [e]
  simpa using h
theorem normR_size (s : ByteArray) : (normR s).1.size ≤ 320 := by
  unfold normR
  repeat' split
  · exact Nat.zero_le _
  · exact Nat.zero_le _
  · exact Nat.zero_le _
  · have := foldS_le s
    dsimp only
    omega
set_option maxHeartbeats 800000 in
theorem Norm_any (s : ByteArray) (w : World) (hT : Tabs w) :
    Calls Tryz.prog 20 #[.string s] w fun e w' => e = .returned (.tuple #[.string (normR s).1, .int .i64 (normR s).2]) ∧ Old w w' := by
  by_cases h64 : 64 < s.size
  · have hi : (64 : Int) < s.size := by omega
    have Hr : Hid (normR s = (⟨#[]⟩, 2)) := Lib.hid (by unfold normR; rw [if_pos h64])
    clear h64
    go_enter Tryz.func20, Tryz.ntmps20
    go_wp2_with fail
    go_ret2
    exact ⟨ret_two (by rw [Hr.out]; rfl) (by rw [Hr.out]; rfl), Old.refl _⟩
  · have hi : ¬ (64 : Int) < s.size := by omega
    have HP := Lib.hid (Plain_any s w hT)
    have HF := Lib.hid (fun V (o : Old w V) => Fold_any s V (hT.old o) (by omega))
    cases hp : (plainAt s.data.toList 0).2 with
    | false =>
      have Hr : Hid (normR s = (⟨#[]⟩, 70)) := Lib.hid (by unfold normR; rw [if_neg h64, if_pos hp])
      rw [hp] at HP
      clear h64 hp
      go_enter Tryz.func20, Tryz.ntmps20
      go_wp2_with fail
      refine HP.out.mono ?_
      rintro e w1 ⟨rfl, o1⟩
      go_wp2_with fail
      go_ret2
      exact ⟨ret_two (by rw [Hr.out]; rfl) (by rw [Hr.out]; rfl), o1⟩
    | true =>
      rw [hp] at HP
      by_cases hf : foldS s = ⟨#[]⟩
      · have Hr : Hid (normR s = (⟨#[]⟩, 70)) := Lib.hid (by unfold normR; rw [if_neg h64, if_neg (by rw [hp]; exact Bool.noConfusion), if_pos hf])
        rw [hf] at HF
        clear h64 hp hf
        go_enter Tryz.func20, Tryz.ntmps20
        go_wp2_with fail
        refine HP.out.mono ?_
        rintro e w1 ⟨rfl, o1⟩
        go_wp2_with fail
        refine (HF.out _ o1).mono ?_
        rintro e w2 ⟨rfl, o2⟩
        go_wp2_with fail
        go_ret2
        exact ⟨ret_two (by rw [Hr.out]; rfl) (by rw [Hr.out]; rfl), o1.trans o2⟩
      · have Hr : Hid (normR s = (foldS s, 0)) := Lib.hid (by unfold normR; rw [if_neg h64, if_neg (by rw [hp]; exact Bool.noConfusion), if_neg hf])
        have hs := str_nil hf
        generalize foldS s = f at *
        clear h64 hp hf
        go_enter Tryz.func20, Tryz.ntmps20
        go_wp2_with fail
        refine HP.out.mono ?_
        rintro e w1 ⟨rfl, o1⟩
        go_wp2_with fail
        refine (HF.out _ o1).mono ?_
        rintro e w2 ⟨rfl, o2⟩
        go_wp2_with fail
        go_ret2
        exact ⟨ret_two (by rw [Hr.out]; rfl) (by rw [Hr.out]; rfl), o1.trans o2⟩
end Go.Proofs.YtpifkinlaicliaaGreatDoor
/-
  TEXT, ORDER: that two texts' comparison is an order of all texts, over no program.
-/

namespace Go.Proofs.YtpifkinlaicliaaGreatDoor
open Go.RowKit

/-- a comparison, among those that R holds of -/
structure CmpOn {α : Type} (R : α → α → Prop) (f : α → α → Int) : Prop where
  rng : ∀ a b, R a b → f a b = -1 ∨ f a b = 0 ∨ f a b = 1
  anti : ∀ a b, R a b → f b a = -f a b
  trans : ∀ a b c, R a b → R b c → R a c → f a b ≤ 0 → f b c ≤ 0 → f a c ≤ 0
def All {α : Type} : α → α → Prop := fun _ _ => True
abbrev Cmp {α : Type} (f : α → α → Int) : Prop := CmpOn All f
section
variable {α : Type} {f g : α → α → Int}
theorem Cmp.r (h : Cmp f) (a b : α) : f a b = -1 ∨ f a b = 0 ∨ f a b = 1 := h.rng a b trivial
theorem Cmp.an (h : Cmp f) (a b : α) : f b a = -f a b := h.anti a b trivial
theorem Cmp.tr (h : Cmp f) {a b c : α} (h1 : f a b ≤ 0) (h2 : f b c ≤ 0) : f a c ≤ 0 := h.trans a b c trivial trivial trivial h1 h2
theorem Cmp.self (h : Cmp f) (a : α) : f a a = 0 := by have := h.an a a; omega
theorem Cmp.zero_left (h : Cmp f) {a b : α} (h0 : f a b = 0) (c : α) : f a c = f b c := by
  have h1 := h.an a b
  have t1 : f b c ≤ 0 → f a c ≤ 0 := fun k => h.tr (by omega) k
  have t2 : f a c ≤ 0 → f b c ≤ 0 := fun k => h.tr (by omega) k
  have t3 : f c b ≤ 0 → f c a ≤ 0 := fun k => h.tr k (by omega)
  have t4 : f c a ≤ 0 → f c b ≤ 0 := fun k => h.tr k (by omega)
  have e1 := h.an a c
  have e2 := h.an b c
  have r1 := h.r a c
  have r2 := h.r b c
  omega
theorem Cmp.zero_trans (h : Cmp f) {a b c : α} (h1 : f a b = 0) (h2 : f b c = 0) : f a c = 0 := by rw [h.zero_left h1]; exact h2
/-- first by the one, then by the other -/
def seqC (f g : α → α → Int) (a b : α) : Int := if f a b = 0 then g a b else f a b
theorem seq_on {R : α → α → Prop} (h : Cmp f) (hR : ∀ a b, f a b = 0 → R a b) (k : CmpOn R g) : Cmp (seqC f g) where
  rng a b _ := by
    unfold seqC
    split
    · exact k.rng a b (hR a b ‹_›)
    · exact h.r a b
  anti a b _ := by
    unfold seqC
    have e := h.an a b
    by_cases h0 : f a b = 0
    · rw [if_pos (by omega), if_pos h0, k.anti a b (hR a b h0)]
    · rw [if_neg (by omega), if_neg h0, e]
  trans a b c _ _ _ h1 h2 := by
    unfold seqC at *
    by_cases a1 : f a b = 0
    · rw [if_pos a1] at h1
      have e := h.zero_left a1 c
      by_cases a2 : f b c = 0
      · rw [if_pos a2] at h2
        rw [if_pos (by omega)]
        exact k.trans a b c (hR _ _ a1) (hR _ _ a2) (hR _ _ (by omega)) h1 h2
      · rw [if_neg a2] at h2
        rw [if_neg (by omega)]; omega
    · rw [if_neg a1] at h1
      by_cases a2 : f b c = 0
      · have e1 := h.zero_left (a := c) (b := b) (by have := h.an b c; omega) a
        have e2 := h.an a c
        have e3 := h.an a b
        rw [if_neg (by omega)]; omega
      · rw [if_neg a2] at h2
        have h3 := h.tr h1 h2
        by_cases a3 : f a c = 0
        · exfalso
          have e := h.zero_left a3 b
          have e2 := h.an b c
          have r1 := h.r a b
          have r2 := h.r b c
          omega
        · rw [if_neg a3]; exact h3
theorem seq_cmp (h : Cmp f) (k : Cmp g) : Cmp (seqC f g) := seq_on h (fun _ _ _ => trivial) k
theorem lexL_cmp (h : Cmp f) : Cmp (lexL f) where
  rng a b _ := by
    induction a generalizing b with
    | nil => cases b <;> simp [lexL]
    | cons x a ih =>
      cases b with
      | nil => simp [lexL]
      | cons y b =>
        unfold lexL
        split
        · exact ih b trivial
        · exact h.r x y
  anti a b _ := by
    induction a generalizing b with
    | nil => cases b <;> simp [lexL]
    | cons x a ih =>
      cases b with
      | nil => simp [lexL]
      | cons y b =>
        unfold lexL
        have e := h.an x y
        by_cases h0 : f x y = 0
        · rw [if_pos (by omega), if_pos h0, ih b trivial]
        · rw [if_neg (by omega), if_neg h0, e]
  trans a b c _ _ _ := by
    induction a generalizing b c with
    | nil => intro _ _; cases c <;> simp [lexL]
    | cons x a ih =>
      intro h1 h2
      cases b with
      | nil => simp [lexL] at h1
      | cons y b =>
        cases c with
        | nil => simp [lexL] at h2
        | cons z c =>
          unfold lexL at h1 h2 ⊢
          by_cases a1 : f x y = 0
          · rw [if_pos a1] at h1
            have e := h.zero_left a1 z
            by_cases a2 : f y z = 0
            · rw [if_pos a2] at h2
              rw [if_pos (by omega)]
              exact ih b c trivial trivial trivial h1 h2
            · rw [if_neg a2] at h2
              rw [if_neg (by omega)]; omega
          · rw [if_neg a1] at h1
            by_cases a2 : f y z = 0
            · have e1 := h.zero_left (a := z) (b := y) (by have := h.an y z; omega) x
              have e2 := h.an x z
              have e3 := h.an x y
              rw [if_neg (by omega)]; omega
            · rw [if_neg a2] at h2
              have h3 := h.tr h1 h2
              by_cases a3 : f x z = 0
              · exfalso
                have e := h.zero_left a3 y
                have e2 := h.an y z
                have r1 := h.r x y
                have r2 := h.r y z
                omega
              · rw [if_neg a3]; exact h3
end
theorem int_cmp {α : Type} (g : α → Int) : Cmp (fun a b => Lib.compareInt (g a) (g b)) where
  rng a b _ := by
    unfold Lib.compareInt
    split
    · exact .inl rfl
    · split
      · exact .inr (.inr rfl)
      · exact .inr (.inl rfl)
  anti a b _ := by
    show Lib.compareInt (g b) (g a) = -Lib.compareInt (g a) (g b)
    unfold Lib.compareInt
    rcases Int.lt_trichotomy (g a) (g b) with h | h | h
    · rw [if_neg (by omega), if_pos (by omega), if_pos h]; rfl
    · rw [if_neg (by omega), if_neg (by omega), if_neg (by omega), if_neg (by omega)]; rfl
    · rw [if_pos (by omega), if_neg (by omega), if_pos (by omega)]
  trans a b c _ _ _ := by
    intro h1 h2
    have k : ∀ x y : Int, Lib.compareInt x y ≤ 0 ↔ x ≤ y := by
      intro x y
      unfold Lib.compareInt
      split
      · constructor <;> intro <;> omega
      · split
        · constructor <;> intro <;> omega
        · constructor <;> intro <;> omega
    have h1' := (k _ _).1 h1
    have h2' := (k _ _).1 h2
    exact (k _ _).2 (by omega)
theorem bytes_lex : ∀ a b : List UInt8, Lib.compareBytes a b = lexL (fun x y : UInt8 => Lib.compareInt x.toNat y.toNat) a b
  | [], [] => rfl
  | [], _ :: _ => rfl
  | _ :: _, [] => rfl
  | x :: a, y :: b => by
    have ih := bytes_lex a b
    have e1 : Lib.compareBytes (x :: a) (y :: b) = if x < y then -1 else if y < x then 1 else Lib.compareBytes a b := rfl
    have e2 : lexL (fun x y : UInt8 => Lib.compareInt x.toNat y.toNat) (x :: a) (y :: b) = if Lib.compareInt x.toNat y.toNat = 0 then lexL (fun x y : UInt8 => Lib.compareInt x.toNat y.toNat) a b else Lib.compareInt x.toNat y.toNat := rfl
    rw [e1, e2, ih]
    rcases Nat.lt_trichotomy x.toNat y.toNat with h | h | h
    · have c : Lib.compareInt (x.toNat : Int) y.toNat = -1 := by unfold Lib.compareInt; rw [if_pos (by omega)]
      rw [if_pos (UInt8.lt_iff_toNat_lt.2 h), c, if_neg (by decide)]
    · have c : Lib.compareInt (x.toNat : Int) y.toNat = 0 := by unfold Lib.compareInt; rw [if_neg (by omega), if_neg (by omega)]
      rw [if_neg (fun k => by have := UInt8.lt_iff_toNat_lt.1 k; omega), if_neg (fun k => by have := UInt8.lt_iff_toNat_lt.1 k; omega), c, if_pos rfl]
    · have c : Lib.compareInt (x.toNat : Int) y.toNat = 1 := by unfold Lib.compareInt; rw [if_neg (by omega), if_pos (by omega)]
      rw [if_neg (fun k => by have := UInt8.lt_iff_toNat_lt.1 k; omega), if_pos (UInt8.lt_iff_toNat_lt.2 h), c, if_neg (by decide)]
theorem bytes_cmp : Cmp Lib.compareBytes := by
  have : Lib.compareBytes = lexL (fun x y : UInt8 => Lib.compareInt x.toNat y.toNat) := by funext a b; exact bytes_lex a b
  rw [this]
  exact lexL_cmp (int_cmp _)
theorem bytes_zero : ∀ {a b : List UInt8}, Lib.compareBytes a b = 0 → a = b := by
  intro a
  induction a with
  | nil => intro b h; cases b with
    | nil => rfl
    | cons _ _ => rw [bytes_lex] at h; simp [lexL] at h
  | cons x a ih => intro b h; cases b with
    | nil => rw [bytes_lex] at h; simp [lexL] at h
    | cons y b =>
      rw [bytes_lex] at h
      unfold lexL at h
      by_cases h0 : Lib.compareInt (x.toNat : Int) y.toNat = 0
      · rw [if_pos h0, ← bytes_lex] at h
        have e := compareInt_eq h0
        have : x = y := UInt8.toNat_inj.1 (by omega)
        rw [this, ih h]
      · rw [if_neg h0] at h; exact absurd h h0
theorem orL_two (a b : Int) : orL [a, b] = if a = 0 then b else a := by
  unfold orL
  split
  · unfold orL
    split
    · rename_i h; rw [h]; rfl
    · rfl
  · rfl
theorem cmpEl_cmp : Cmp cmpEl := by
  have hg : CmpOn (fun a b : El => a.k = b.k) (fun a b => if a.k = 1 then seqC (fun a b : El => Lib.compareInt a.d.size b.d.size) (fun a b : El => Lib.compareBytes a.d.data.toList b.d.data.toList) a b else Lib.compareInt a.r b.r) := by
    have hs : Cmp (fun a b : El => Lib.compareInt a.d.size b.d.size) := int_cmp (fun a : El => (a.d.size : Int))
    have hb : Cmp (fun a b : El => Lib.compareBytes a.d.data.toList b.d.data.toList) := ⟨fun _ _ _ => bytes_cmp.r _ _, fun _ _ _ => bytes_cmp.an _ _, fun _ _ _ _ _ _ h1 h2 => bytes_cmp.tr h1 h2⟩
    have h1 := seq_cmp hs hb
    have h2 : Cmp (fun a b : El => Lib.compareInt a.r b.r) := int_cmp (fun a : El => (a.r : Int))
    refine ⟨fun a b _ => ?_, fun a b e => ?_, fun a b c e1 e2 e3 => ?_⟩
    · split
      · exact h1.r a b
      · exact h2.r a b
    · by_cases h : a.k = 1
      · rw [if_pos (by rw [← e]; exact h), if_pos h]; exact h1.an a b
      · rw [if_neg (by rw [← e]; exact h), if_neg h]; exact h2.an a b
    · by_cases h : a.k = 1
      · rw [if_pos h, if_pos (by rw [← e1]; exact h), if_pos h]; exact fun k1 k2 => h1.tr k1 k2
      · rw [if_neg h, if_neg (by rw [← e1]; exact h), if_neg h]; exact fun k1 k2 => h2.tr k1 k2
  have hk : Cmp (fun a b : El => Lib.compareInt a.k b.k) := int_cmp (fun a : El => (a.k : Int))
  have hall := seq_on hk (R := fun a b : El => a.k = b.k) (fun a b h => by have := compareInt_eq h; omega) hg
  have e : cmpEl = seqC (fun a b : El => Lib.compareInt a.k b.k) (fun a b => if a.k = 1 then seqC (fun a b : El => Lib.compareInt a.d.size b.d.size) (fun a b : El => Lib.compareBytes a.d.data.toList b.d.data.toList) a b else Lib.compareInt a.r b.r) := by
    funext a b
    unfold cmpEl seqC
    by_cases h : Lib.compareInt (a.k : Int) b.k = 0
    · rw [if_neg (by simpa using h), if_pos h, orL_two]
    · rw [if_pos h, if_neg h]
  rw [e]; exact hall
/-- the four comparisons, one behind the other -/
def allC : ByteArray → ByteArray → Int :=
  seqC (fun a b => lexL cmpEl (elsS a) (elsS b)) (seqC (fun a b => lexL (byF smallC) (runesI a) (runesI b)) (seqC (fun a b => lexL (byF id) (runesI a) (runesI b)) (fun a b => Lib.compareBytes a.data.toList b.data.toList)))
theorem pull {α β : Type} {f : β → β → Int} (h : Cmp f) (g : α → β) : Cmp (fun a b => f (g a) (g b)) := ⟨fun _ _ _ => h.r _ _, fun _ _ _ => h.an _ _, fun _ _ _ _ _ _ h1 h2 => h.tr h1 h2⟩
theorem allC_cmp : Cmp allC :=
  seq_cmp (pull (lexL_cmp cmpEl_cmp) elsS) (seq_cmp (pull (lexL_cmp (f := byF smallC) (int_cmp smallC)) runesI) (seq_cmp (pull (lexL_cmp (f := byF id) (int_cmp id)) runesI) (pull bytes_cmp (fun s : ByteArray => s.data.toList))))
theorem allC_or (a b : ByteArray) : orL [lexL cmpEl (elsS a) (elsS b), lexL (byF smallC) (runesI a) (runesI b), lexL (byF id) (runesI a) (runesI b), Lib.compareBytes a.data.toList b.data.toList] = allC a b := by
  unfold allC seqC
  unfold orL
  split
  · unfold orL
    split
    · rw [orL_two]
    · rfl
  · rfl
theorem compareT_eq (a b : ByteArray) : compareT a b = allC a b := by
  unfold compareT
  split
  · rename_i h; rw [h, allC_cmp.self]
  · exact allC_or a b
theorem compareT_zero {a b : ByteArray} : compareT a b = 0 ↔ a = b := by
  constructor
  · intro h
    by_cases e : a = b
    · exact e
    · rw [compareT, if_neg e, allC_or] at h
      unfold allC seqC at h
      split at h
      · split at h
        · split at h
          · exact ByteArray.ext (Array.toList_inj.1 (bytes_zero h))
          · exact absurd h ‹_›
        · exact absurd h ‹_›
      · exact absurd h ‹_›
  · intro h; rw [compareT, if_pos h]
theorem compareT_rng (a b : ByteArray) : -1 ≤ compareT a b ∧ compareT a b ≤ 1 := by rw [compareT_eq]; have := allC_cmp.r a b; omega
theorem compareT_anti (a b : ByteArray) : compareT b a = -compareT a b := by rw [compareT_eq, compareT_eq]; exact allC_cmp.an a b
theorem compareT_trans {a b c : ByteArray} (h1 : compareT a b ≤ 0) (h2 : compareT b c ≤ 0) : compareT a c ≤ 0 := by rw [compareT_eq] at *; exact allC_cmp.tr h1 h2
end Go.Proofs.YtpifkinlaicliaaGreatDoor
