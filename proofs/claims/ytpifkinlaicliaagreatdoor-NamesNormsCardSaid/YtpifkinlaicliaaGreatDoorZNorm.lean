/-
  A NAME's NORM: the program's, the document's.
-/
import Derived.Test.YtpifkinlaicliaaGreatDoorZTextRefF
namespace Go.Proofs.YtpifkinlaicliaaGreatDoor
open Go.RowKit
attribute [local go_sem] Old.refl Old.alloc Old.drew Old.setCell OldW.old

/-- what counts of a name, and the error's number -/
def normR (s : ByteArray) : ByteArray × Int :=
  if 64 < s.size then (⟨#[]⟩, 2) else if (plainAt s.data.toList 0).2 = false then (⟨#[]⟩, 70) else if foldS s = ⟨#[]⟩ then (⟨#[]⟩, 70) else (foldS s, 0)
theorem normR_err (s : ByteArray) : (normR s).2 = 0 ∨ (normR s).2 = 2 ∨ (normR s).2 = 70 := by
  unfold normR
  repeat' split
  all_goals simp
theorem normR_bad {s : ByteArray} (h : ¬ (normR s).2 = 0) : (normR s).1 = ⟨#[]⟩ := by
  unfold normR at h ⊢
  repeat' split
  all_goals simp_all
theorem normR_ok {s : ByteArray} (h : (normR s).2 = 0) : (normR s).1 = foldS s ∧ foldS s ≠ ⟨#[]⟩ ∧ s.size ≤ 64 ∧ (plainAt s.data.toList 0).2 = true := by
  unfold normR at h ⊢
  repeat' split
  all_goals simp_all
theorem str_nil {s : ByteArray} (h : ¬ s = ⟨#[]⟩) : s.toList.isEmpty = false := by
  rw [ByteArray.toList_eq, List.isEmpty_eq_false_iff]
  intro e
  exact h (ByteArray.ext (Array.toList_inj.1 e))
theorem foldC_len (s : ByteArray) (p : Nat) : (foldC s p).length ≤ 4 := by
  unfold foldC
  split
  · simp
  · have h := Lib.runeCells_le (smallC (chR s.data.toList p))
    rw [Lib.runeCells_length] at h
    exact h.2
theorem foldGo_len (s : ByteArray) : ∀ (d p : Nat) (wt : Bool) (t : List UInt8), s.size - p = d → (foldGo s p wt t).length ≤ t.length + 5 * d := fun d => by
  induction d using Nat.strongRecOn with
  | _ d ih =>
    intro p wt t hd
    by_cases hp : p < s.size
    · by_cases h : chR s.data.toList p = 32
      · rw [foldGo_sp hp h]
        have := ih (d - 1) (by omega) (p + 1) (decide (0 < t.length)) t (by omega)
        omega
      · rw [foldGo_on hp h]
        have h1 := chN_pos s.data.toList p
        have := ih (s.size - (p + chN s.data.toList p)) (by omega) (p + chN s.data.toList p) false ((if wt then t ++ [32] else t) ++ foldC s p) rfl
        have h3 := foldC_len s p
        have h4 : (if wt then t ++ [32] else t).length ≤ t.length + 1 := by split <;> simp
        rw [List.length_append] at this
        omega
    · rw [foldGo_end hp]; omega
theorem foldS_le (s : ByteArray) : (foldS s).size ≤ 5 * s.size := by
  have h := foldGo_len s s.size 0 false [] (by omega)
  unfold foldS foldB
  have e : ∀ l : List UInt8, (⟨l.toArray⟩ : ByteArray).size = l.length := fun l => rfl
  rw [e]
  simpa using h
theorem normR_size (s : ByteArray) : (normR s).1.size ≤ 320 := by
  unfold normR
  repeat' split
  · exact Nat.zero_le _
  · exact Nat.zero_le _
  · exact Nat.zero_le _
  · have := foldS_le s
    dsimp only
    omega
set_option maxHeartbeats 800000 in
theorem Norm_any (s : ByteArray) (w : World) (hT : Tabs w) :
    Calls Tryz.prog 20 #[.string s] w fun e w' => e = .returned (.tuple #[.string (normR s).1, .int .i64 (normR s).2]) ∧ Old w w' := by
  by_cases h64 : 64 < s.size
  · have hi : (64 : Int) < s.size := by omega
    have Hr : Hid (normR s = (⟨#[]⟩, 2)) := Lib.hid (by unfold normR; rw [if_pos h64])
    clear h64
    go_enter Tryz.func20, Tryz.ntmps20
    go_wp2_with fail
    go_ret2
    exact ⟨ret_two (by rw [Hr.out]; rfl) (by rw [Hr.out]; rfl), Old.refl _⟩
  · have hi : ¬ (64 : Int) < s.size := by omega
    have HP := Lib.hid (Plain_any s w hT)
    have HF := Lib.hid (fun V (o : Old w V) => Fold_any s V (hT.old o) (by omega))
    cases hp : (plainAt s.data.toList 0).2 with
    | false =>
      have Hr : Hid (normR s = (⟨#[]⟩, 70)) := Lib.hid (by unfold normR; rw [if_neg h64, if_pos hp])
      rw [hp] at HP
      clear h64 hp
      go_enter Tryz.func20, Tryz.ntmps20
      go_wp2_with fail
      refine HP.out.mono ?_
      rintro e w1 ⟨rfl, o1⟩
      go_wp2_with fail
      go_ret2
      exact ⟨ret_two (by rw [Hr.out]; rfl) (by rw [Hr.out]; rfl), o1⟩
    | true =>
      rw [hp] at HP
      by_cases hf : foldS s = ⟨#[]⟩
      · have Hr : Hid (normR s = (⟨#[]⟩, 70)) := Lib.hid (by unfold normR; rw [if_neg h64, if_neg (by rw [hp]; exact Bool.noConfusion), if_pos hf])
        rw [hf] at HF
        clear h64 hp hf
        go_enter Tryz.func20, Tryz.ntmps20
        go_wp2_with fail
        refine HP.out.mono ?_
        rintro e w1 ⟨rfl, o1⟩
        go_wp2_with fail
        refine (HF.out _ o1).mono ?_
        rintro e w2 ⟨rfl, o2⟩
        go_wp2_with fail
        go_ret2
        exact ⟨ret_two (by rw [Hr.out]; rfl) (by rw [Hr.out]; rfl), o1.trans o2⟩
      · have Hr : Hid (normR s = (foldS s, 0)) := Lib.hid (by unfold normR; rw [if_neg h64, if_neg (by rw [hp]; exact Bool.noConfusion), if_neg hf])
        have hs := str_nil hf
        generalize foldS s = f at *
        clear h64 hp hf
        go_enter Tryz.func20, Tryz.ntmps20
        go_wp2_with fail
        refine HP.out.mono ?_
        rintro e w1 ⟨rfl, o1⟩
        go_wp2_with fail
        refine (HF.out _ o1).mono ?_
        rintro e w2 ⟨rfl, o2⟩
        go_wp2_with fail
        go_ret2
        exact ⟨ret_two (by rw [Hr.out]; rfl) (by rw [Hr.out]; rfl), o1.trans o2⟩
end Go.Proofs.YtpifkinlaicliaaGreatDoor
