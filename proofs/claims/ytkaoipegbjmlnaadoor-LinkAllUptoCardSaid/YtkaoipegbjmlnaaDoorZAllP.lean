/-
  ALL REFERENCES, PLAIN: what they are where there is no fault; one more that leads nowhere.
-/
import Derived.Test.YtkaoipegbjmlnaaDoorZRefsY
import Derived.Test.YtkaoipegbjmlnaaDoorZRefsS
namespace Go.Proofs.YtkaoipegbjmlnaaDoor
open Go.RowKit

def Res.opt : Res → Option (List Rfr)
  | .ok l => some l
  | .error _ => none
/-- a reference's record -/
def mkRf (dir : List Nm) (fr : Nat) (p : Pc) : Rfr := match judge dir p with
  | .ok k => ⟨fr, k, noteI p, p.name, p.line, p.col⟩
  | .error _ => ⟨fr, 0, noteI p, p.name, p.line, p.col⟩
def goodB (dir : List Nm) (p : Pc) : Bool := match judge dir p with
  | .ok _ => true
  | .error _ => false
/-- a topic's references -/
def oneO (dir : List Nm) (fr : Nat) : List Pc → Option (List Rfr)
  | [] => some []
  | p :: ps => if refB p = true then (if goodB dir p = true then (oneO dir fr ps).map (mkRf dir fr p :: ·) else none) else oneO dir fr ps
def allO (dir : List Nm) : List (List Pc) → Nat → Option (List Rfr)
  | [], _ => some []
  | ps :: T, fr => (oneO dir fr ps).bind fun l => (allO dir T (fr + 1)).map (l ++ ·)
theorem allO_cons {dir : List Nm} {ps : List Pc} {T : List (List Pc)} {fr : Nat} : allO dir (ps :: T) fr = (oneO dir fr ps).bind fun l => (allO dir T (fr + 1)).map (l ++ ·) := rfl
theorem goP_opt {dir : List Nm} {fr src : Nat} : ∀ {ps : List Pc} {acc : List Rfr} {K : List Rfr → Res}, (goP dir fr src ps acc K).opt = (oneO dir fr ps).bind fun l => (K (acc ++ l)).opt
  | [], acc, K => by
    show (K acc).opt = (K (acc ++ [])).opt
    rw [List.append_nil]
  | p :: ps, acc, K => by
    unfold goP oneO
    by_cases h : refB p = true
    · rw [if_pos h, if_pos h]
      cases hj : judge dir p with
      | error c =>
        have hg : goodB dir p = false := by unfold goodB; rw [hj]
        rw [hg]; rfl
      | ok k =>
        have hg : goodB dir p = true := by unfold goodB; rw [hj]
        have hm : mkRf dir fr p = ⟨fr, k, noteI p, p.name, p.line, p.col⟩ := by unfold mkRf; rw [hj]
        rw [if_pos hg, hm]
        dsimp only
        rw [goP_opt]
        cases oneO dir fr ps with
        | none => rfl
        | some l => simp
    · rw [if_neg h, if_neg h]
      exact goP_opt
theorem goB_top {dir : List Nm} {fr src : Nat} {ps : List Pc} {acc : List Rfr} {K : List Rfr → Res} : goB dir fr src (topOf ps) acc K = goP dir fr src ps acc K := rfl
theorem goT_opt {dir : List Nm} {src : Nat} : ∀ {T : List (List Pc)} {fr : Nat} {acc : List Rfr} {K : Nat → List Rfr → Res}, (goT dir src (T.map topOf) fr acc K).opt = (allO dir T fr).bind fun l => (K (fr + T.length) (acc ++ l)).opt
  | [], fr, acc, K => by
    show (K fr acc).opt = (K (fr + 0) (acc ++ [])).opt
    rw [List.append_nil, Nat.add_zero]
  | ps :: T, fr, acc, K => by
    rw [List.map_cons]
    unfold goT allO
    rw [goB_top, goP_opt]
    cases oneO dir fr ps with
    | none => rfl
    | some l =>
      show (goT dir src (T.map topOf) (fr + 1) (acc ++ l) K).opt = ((allO dir T (fr + 1)).map (l ++ ·)).bind _
      rw [goT_opt]
      cases allO dir T (fr + 1) with
      | none => rfl
      | some m =>
        show (K (fr + 1 + T.length) (acc ++ l ++ m)).opt = (K (fr + (T.length + 1)) (acc ++ (l ++ m))).opt
        rw [List.append_assoc, show fr + 1 + T.length = fr + (T.length + 1) by omega]
theorem allO_append {dir : List Nm} : ∀ {A B : List (List Pc)} {fr : Nat}, allO dir (A ++ B) fr = (allO dir A fr).bind fun l => (allO dir B (fr + A.length)).map (l ++ ·)
  | [], B, fr => by
    show allO dir B fr = (allO dir B (fr + 0)).map ([] ++ ·)
    rw [Nat.add_zero]
    cases allO dir B fr <;> rfl
  | a :: A, B, fr => by
    rw [List.cons_append, allO_cons, allO_cons]
    cases oneO dir fr a with
    | none => rfl
    | some l =>
      show ((allO dir (A ++ B) (fr + 1)).map (l ++ ·)) = ((allO dir A (fr + 1)).map (l ++ ·)).bind _
      rw [allO_append]
      cases allO dir A (fr + 1) with
      | none => rfl
      | some m =>
        show (((allO dir B (fr + 1 + A.length)).map (m ++ ·)).map (l ++ ·)) = (allO dir B (fr + (a :: A).length)).map ((l ++ m) ++ ·)
        rw [List.length_cons]
        rw [show fr + 1 + A.length = fr + (A.length + 1) by omega]
        cases allO dir B (fr + (A.length + 1)) with
        | none => rfl
        | some k => simp
theorem goS_opt {dir : List Nm} : ∀ {S : List (List (List (List Pc)))} {T : List (List Pc)} {src fr : Nat} {acc : List Rfr}, S.flatten = T.map topOf → (goS dir S src fr acc).opt = (allO dir T fr).map (acc ++ ·)
  | [], T, src, fr, acc, h => by
    have : T = [] := by
      have := congrArg List.length h
      simp at this
      first | exact this | exact List.eq_nil_of_length_eq_zero (by omega) | exact this.symm
    subst this
    show some acc = some (acc ++ [])
    rw [List.append_nil]
  | X :: S, T, src, fr, acc, h => by
    rw [List.flatten_cons] at h
    obtain ⟨T1, T2, rfl, h1, h2⟩ := List.map_eq_append_iff.1 h.symm
    unfold goS
    rw [← h1, goT_opt, allO_append]
    cases allO dir T1 fr with
    | none => rfl
    | some l =>
      show (goS dir S (src + 1) (fr + T1.length) (acc ++ l)).opt = ((allO dir T2 (fr + T1.length)).map (l ++ ·)).map (acc ++ ·)
      rw [goS_opt h2.symm]
      cases allO dir T2 (fr + T1.length) with
      | none => rfl
      | some m => simp
/-! ### one more, that leads nowhere -/
theorem goP_det {dir : List Nm} {fr src : Nat} {ps : List Pc} {acc l : List Rfr} (h : oneO dir fr ps = some l) (K : List Rfr → Res) : goP dir fr src ps acc K = K (acc ++ l) := by
  induction ps generalizing acc l with
  | nil =>
    obtain rfl : [] = l := Option.some.inj h
    rw [List.append_nil]; rfl
  | cons p ps ih =>
    unfold oneO at h
    unfold goP
    by_cases h2 : refB p = true
    · rw [if_pos h2] at h ⊢
      cases hj : judge dir p with
      | error c =>
        have hg : goodB dir p = false := by unfold goodB; rw [hj]
        rw [hg] at h; cases h
      | ok k =>
        have hg : goodB dir p = true := by unfold goodB; rw [hj]
        have hm : mkRf dir fr p = ⟨fr, k, noteI p, p.name, p.line, p.col⟩ := by unfold mkRf; rw [hj]
        rw [if_pos hg, hm] at h
        obtain ⟨m, hm2, rfl⟩ := Option.map_eq_some_iff.1 h
        dsimp only
        rw [ih hm2]
        simp
    · rw [if_neg h2] at h ⊢
      exact ih h
theorem goT_det {dir : List Nm} {src : Nat} {T : List (List Pc)} {fr : Nat} {acc l : List Rfr} (h : allO dir T fr = some l) {T' : List (List (List Pc))} (K : Nat → List Rfr → Res) : goT dir src (T.map topOf ++ T') fr acc K = goT dir src T' (fr + T.length) (acc ++ l) K := by
  induction T generalizing fr acc l with
  | nil =>
    obtain rfl : [] = l := Option.some.inj h
    rw [List.append_nil]; rfl
  | cons ps T ih =>
    unfold allO at h
    obtain ⟨a, ha, h⟩ := Option.bind_eq_some_iff.1 h
    obtain ⟨b, hb, rfl⟩ := Option.map_eq_some_iff.1 h
    rw [List.map_cons, List.cons_append]
    show goB dir fr src (topOf ps) acc (fun a => goT dir src (T.map topOf ++ T') (fr + 1) a K) = _
    rw [goB_top, goP_det ha, ih hb, List.length_cons, List.append_assoc, show fr + 1 + T.length = fr + (T.length + 1) by omega]
theorem goS_det {dir : List Nm} {A B : List (List (List (List Pc)))} {T : List (List Pc)} {src fr : Nat} {acc l : List Rfr} (hA : A.flatten = T.map topOf) (h : allO dir T fr = some l) : goS dir (A ++ B) src fr acc = goS dir B (src + A.length) (fr + T.length) (acc ++ l) := by
  induction A generalizing T src fr acc l with
  | nil =>
    have : T = [] := by
      have := congrArg List.length hA
      simp at this
      exact List.eq_nil_of_length_eq_zero this.symm
    subst this
    obtain rfl : [] = l := Option.some.inj h
    rw [List.append_nil]; rfl
  | cons X A ih =>
    rw [List.flatten_cons] at hA
    obtain ⟨T1, T2, rfl, h1, h2⟩ := List.map_eq_append_iff.1 hA.symm
    rw [allO_append] at h
    obtain ⟨a, ha, h⟩ := Option.bind_eq_some_iff.1 h
    obtain ⟨b, hb, rfl⟩ := Option.map_eq_some_iff.1 h
    rw [List.cons_append]
    show goT dir src X fr acc (fun fr a => goS dir (A ++ B) (src + 1) fr a) = _
    have hX := goT_det (src := src) (acc := acc) (T' := []) ha (fun fr a => goS dir (A ++ B) (src + 1) fr a)
    rw [List.append_nil, h1] at hX
    rw [hX]
    show goS dir (A ++ B) (src + 1) (fr + T1.length) (acc ++ a) = _
    rw [ih h2.symm hb, List.length_append, List.length_cons, List.append_assoc, show src + 1 + A.length = src + (A.length + 1) by omega, show fr + T1.length + T2.length = fr + (T1.length + T2.length) by omega]
/-- where the last topic goes -/
theorem addT_shape (cut : Int) (S : List (List (List (List Pc)))) : ∃ A X, A.flatten ++ X = S.flatten ∧ ∀ ps, addT cut S ps = A ++ [X ++ [topOf ps]] := by
  rcases List.eq_nil_or_concat S with rfl | ⟨L0, Lx, rfl⟩
  · exact ⟨[], [], rfl, fun ps => rfl⟩
  · rw [List.concat_eq_append]
    cases h : newB cut (L0 ++ [Lx]) with
    | true => exact ⟨L0 ++ [Lx], [], by simp, fun ps => by rw [addT_new h]; rfl⟩
    | false => exact ⟨L0, Lx, by simp, fun ps => addT_same h ps⟩
def badP : Pc := ⟨3, ⟨#[255, 255]⟩, 77, 5⟩
theorem norm_bad : ¬ (normR badP.name).2 = 0 := by
  have h : (plainAt badP.name.data.toList 0).2 = false := by
    rw [plainAt_no (by decide) (by decide)]
  unfold normR
  rw [if_neg (by decide), if_pos h]
  decide
theorem judge_badP (dir : List Nm) : judge dir badP = .error 80 := judge_bad norm_bad
theorem oneO_bad {dir : List Nm} {fr src : Nat} {ps : List Pc} {acc l : List Rfr} (h : oneO dir fr ps = some l) (K : List Rfr → Res) : goP dir fr src (ps ++ [badP]) acc K = .error ⟨80, src, 77, 5, ⟨#[255, 255]⟩⟩ := by
  induction ps generalizing acc l with
  | nil =>
    show goP dir fr src [badP] acc K = _
    unfold goP
    rw [if_pos (by decide), judge_badP]
    rfl
  | cons p ps ih =>
    unfold oneO at h
    rw [List.cons_append]
    unfold goP
    by_cases h2 : refB p = true
    · rw [if_pos h2] at h ⊢
      cases hj : judge dir p with
      | error c =>
        have hg : goodB dir p = false := by unfold goodB; rw [hj]
        rw [hg] at h; cases h
      | ok k =>
        have hg : goodB dir p = true := by unfold goodB; rw [hj]
        rw [if_pos hg] at h
        obtain ⟨m, hm2, rfl⟩ := Option.map_eq_some_iff.1 h
        exact ih hm2
    · rw [if_neg h2] at h ⊢
      exact ih h
/-- the first of all faults is the piece that was put behind -/
theorem more_bad {dir : List Nm} {cut : Int} {T0 : List (List Pc)} {ps : List Pc} {l : List Rfr} (h : allO dir (T0 ++ [ps]) 0 = some l) :
    goS dir (grp cut (T0 ++ [ps ++ [badP]])) 0 0 [] = .error ⟨80, (grp cut (T0 ++ [ps ++ [badP]])).length - 1, 77, 5, ⟨#[255, 255]⟩⟩ := by
  rw [grp_snoc]
  obtain ⟨A, X, hf, hs⟩ := addT_shape cut (grp cut T0)
  rw [hs]
  have hg : (grp cut T0).flatten = T0.map topOf := by
    have h : ∀ (T : List (List Pc)) S, (T.foldl (addT cut) S).flatten = S.flatten ++ T.map topOf := fun T => by
      induction T with
      | nil => intro S; simp
      | cons t T ih =>
        intro S
        rw [List.foldl_cons, ih]
        obtain ⟨A, X, hf, hs⟩ := addT_shape cut S
        rw [hs, List.flatten_append, ← hf]
        simp
    unfold grp
    rw [h]; rfl
  rw [hg] at hf
  obtain ⟨T1, T2, rfl, h1, h2⟩ := List.map_eq_append_iff.1 hf.symm
  rw [allO_append, allO_append] at h
  obtain ⟨a, ha, h⟩ := Option.bind_eq_some_iff.1 h
  obtain ⟨b, hb, h⟩ := Option.map_eq_some_iff.1 h
  obtain ⟨a1, ha1, ha⟩ := Option.bind_eq_some_iff.1 ha
  obtain ⟨a2, ha2, rfl⟩ := Option.map_eq_some_iff.1 ha
  unfold allO at hb
  obtain ⟨c, hc, _⟩ := Option.bind_eq_some_iff.1 hb
  rw [goS_det h1.symm ha1]
  show goT dir (0 + A.length) (X ++ [topOf (ps ++ [badP])]) _ _ _ = _
  rw [← h2, goT_det ha2]
  show goB dir _ _ (topOf (ps ++ [badP])) _ _ = _
  rw [goB_top]
  have e : 0 + T1.length + T2.length = 0 + (T1 ++ T2).length := by rw [List.length_append]; omega
  rw [e, oneO_bad hc]
  simp
end Go.Proofs.YtkaoipegbjmlnaaDoor
