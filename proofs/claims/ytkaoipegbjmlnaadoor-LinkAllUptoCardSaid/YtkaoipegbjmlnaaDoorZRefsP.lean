/-
  REFERENCES OF SOURCES, PLAIN: pieces, blocks, topics, sources; what all references are, or the first fault; how they lie; over no program.
-/
import Derived.Test.YtkaoipegbjmlnaaDoorZDeep
import Derived.Test.YtkaoipegbjmlnaaDoorZLinkP
import Derived.Test.YtkaoipegbjmlnaaDoorZTocFault
import Derived.Test.YtkaoipegbjmlnaaDoorZNorm
namespace Go.Proofs.YtkaoipegbjmlnaaDoor
open Go.RowKit

/-- a piece -/
structure Pc where
  kind : Int
  name : ByteArray
  line : Int
  col : Int
def pcE : Enc Pc := ⟨4, fun x => [.int .i64 x.kind, .string x.name, .int .i64 x.line, .int .i64 x.col], fun _ => rfl, fun x u hu => by
  simp only [List.mem_cons, List.not_mem_nil, or_false] at hu
  rcases hu with rfl | rfl | rfl | rfl <;> rfl⟩
def inE : Enc Pc := ⟨5, fun x => [.int .i64 x.kind, .string ⟨#[]⟩, .string x.name, .int .i64 x.line, .int .i64 x.col], fun _ => rfl, fun x u hu => by
  simp only [List.mem_cons, List.not_mem_nil, or_false] at hu
  rcases hu with rfl | rfl | rfl | rfl | rfl <;> rfl⟩
def blE : Enc (Int × Sl) := ⟨6, fun x => [.int .i64 x.1, .int .i64 0, .string ⟨#[]⟩, .slice none 0 0, x.2.v, .int .i64 0], fun _ => rfl, fun x u hu => by
  simp only [List.mem_cons, List.not_mem_nil, or_false] at hu
  rcases hu with rfl | rfl | rfl | rfl | rfl | rfl <;> rfl⟩
def tpE : Enc Sl := ⟨8, fun x => [.int .i64 0, .string ⟨#[]⟩, .string ⟨#[]⟩, .int .i64 0, .slice none 0 0, .slice none 0 0, x.v, .int .i64 0], fun _ => rfl, fun x u hu => by
  simp only [List.mem_cons, List.not_mem_nil, or_false] at hu
  rcases hu with rfl | rfl | rfl | rfl | rfl | rfl | rfl | rfl <;> rfl⟩
def srE : Enc Sl := ⟨2, fun x => [.slice none 0 0, x.v], fun _ => rfl, fun x u hu => by
  simp only [List.mem_cons, List.not_mem_nil, or_false] at hu
  rcases hu with rfl | rfl <;> rfl⟩
def BlkR (w : World) (x : Int × Sl) (ps : List Pc) : Prop := Recs inE w x.2.v ps
def TopR (w : World) (x : Sl) (B : List (List Pc)) : Prop := Seqs blE BlkR w x.v B
def SrcR (w : World) (x : Sl) (T : List (List (List Pc))) : Prop := Seqs tpE TopR w x.v T
def Srcs (w : World) (v : Value) (S : List (List (List (List Pc)))) : Prop := Seqs srE SrcR w v S
theorem BlkR.old {w W : World} {x : Int × Sl} {ps : List Pc} (h : BlkR w x ps) (o : Old w W) : BlkR W x ps := Recs.old h o
theorem TopR.old {w W : World} {x : Sl} {B : List (List Pc)} (h : TopR w x B) (o : Old w W) : TopR W x B := Seqs.old (c := blE) (R := BlkR) (fun _ _ _ _ h o => BlkR.old h o) h o
theorem SrcR.old {w W : World} {x : Sl} {B : List (List (List Pc))} (h : SrcR w x B) (o : Old w W) : SrcR W x B := Seqs.old (c := tpE) (R := TopR) (fun _ _ _ _ h o => TopR.old h o) h o
theorem Srcs.old {w W : World} {v : Value} {S : List (List (List (List Pc)))} (h : Srcs w v S) (o : Old w W) : Srcs W v S := Seqs.old (c := srE) (R := SrcR) (fun _ _ _ _ h o => SrcR.old h o) h o
/-- the pieces that came in -/
def TopicR (w : World) (x : Sl) (ps : List Pc) : Prop := Recs pcE w x.v ps
def Topics (w : World) (v : Value) (T : List (List Pc)) : Prop := Seqs slE TopicR w v T
theorem Topics.old {w W : World} {v : Value} {T : List (List Pc)} (h : Topics w v T) (o : Old w W) : Topics W v T := Seqs.old (c := slE) (R := TopicR) (fun _ _ _ _ h o => Recs.old h o) h o
/-! apart from some blocks -/
def BlkF (F : Nat → Prop) (w : World) (x : Int × Sl) (ps : List Pc) : Prop := RecsF inE F w x.2.v ps
def TopF (F : Nat → Prop) (w : World) (x : Sl) (B : List (List Pc)) : Prop := ∃ t, RecsF blE F w x.v t ∧ Both (BlkF F w) t B
def SrcF (F : Nat → Prop) (w : World) (x : Sl) (T : List (List (List Pc))) : Prop := ∃ t, RecsF tpE F w x.v t ∧ Both (TopF F w) t T
section
variable {F F' : Nat → Prop} {w W : World}
theorem BlkF.kept {x : Int × Sl} {ps : List Pc} (h : BlkF F w x ps) (hk : KeptF F w W) (hF : ∀ b, b < w.heap.size → ¬ F b → ¬ F' b) : BlkF F' W x ps := RecsF.kept h hk hF (by decide)
theorem TopF.kept {x : Sl} {B : List (List Pc)} (h : TopF F w x B) (hk : KeptF F w W) (hF : ∀ b, b < w.heap.size → ¬ F b → ¬ F' b) : TopF F' W x B := by
  obtain ⟨t, h1, h2⟩ := h
  exact ⟨t, h1.kept hk hF (by decide), h2.mono fun _ _ h => h.kept hk hF⟩
theorem SrcF.kept {x : Sl} {B : List (List (List Pc))} (h : SrcF F w x B) (hk : KeptF F w W) (hF : ∀ b, b < w.heap.size → ¬ F b → ¬ F' b) : SrcF F' W x B := by
  obtain ⟨t, h1, h2⟩ := h
  exact ⟨t, h1.kept hk hF (by decide), h2.mono fun _ _ h => h.kept hk hF⟩
theorem BlkF.read {x : Int × Sl} {ps : List Pc} (h : BlkF F w x ps) : BlkR w x ps := RecsF.recs h
theorem TopF.read {x : Sl} {B : List (List Pc)} (h : TopF F w x B) : TopR w x B := by
  obtain ⟨t, h1, h2⟩ := h
  exact ⟨t, h1.recs, h2.mono fun _ _ h => h.read⟩
theorem SrcF.read {x : Sl} {B : List (List (List Pc))} (h : SrcF F w x B) : SrcR w x B := by
  obtain ⟨t, h1, h2⟩ := h
  exact ⟨t, h1.recs, h2.mono fun _ _ h => h.read⟩
end
/-! ### a directory -/
structure Nm where
  name : ByteArray
  norm : ByteArray
  src : Int
  at' : Int
  kind : Int
  line : Int
def nmE : Enc Nm := ⟨6, fun x => [.string x.name, .string x.norm, .int .i64 x.src, .int .i64 x.at', .int .i64 x.kind, .int .i64 x.line], fun _ => rfl, fun x u hu => by
  simp only [List.mem_cons, List.not_mem_nil, or_false] at hu
  rcases hu with rfl | rfl | rfl | rfl | rfl | rfl <;> rfl⟩
/-- the number of the first of a Norm -/
def idx (dir : List Nm) (n : ByteArray) : Option Nat := dir.findIdx? fun d => decide (d.norm = n)
theorem idx_some {dir : List Nm} {n : ByteArray} {k : Nat} (h : idx dir n = some k) : ∃ d, dir[k]? = some d ∧ d.norm = n := by
  unfold idx at h
  rw [List.findIdx?_eq_some_iff_getElem] at h
  obtain ⟨hk, hp, _⟩ := h
  exact ⟨_, List.getElem?_eq_getElem hk, of_decide_eq_true hp⟩
theorem idx_snoc (t : List Nm) (d : Nm) (n : ByteArray) : idx (t ++ [d]) n = match idx t n with | some k => some k | none => if d.norm = n then some t.length else none := by
  unfold idx
  rw [List.findIdx?_append]
  cases h : List.findIdx? (fun d => decide (d.norm = n)) t with
  | some k => rfl
  | none =>
    rw [List.findIdx?_cons, List.findIdx?_nil]
    by_cases e : d.norm = n
    · rw [if_pos (decide_eq_true e), if_pos e]; simp
    · rw [if_neg (by simpa using e), if_neg e]; rfl
/-! ### all references, or the first fault -/
def refB (p : Pc) : Bool := p.kind == 3 || p.kind == 4
def noteI (p : Pc) : Int := if p.kind = 4 then 1 else 0
/-- the target of a piece, or the error's number -/
def judge (dir : List Nm) (p : Pc) : Except Int Nat :=
  if (normR p.name).2 = 0 then
    match idx dir (normR p.name).1 with
    | none => .error 80
    | some k => if (dir[k]?.map Nm.kind) = some (noteI p) then .ok k else .error 81
  else .error 80
abbrev Res := Except Flt (List Rfr)
def goP (dir : List Nm) (fr src : Nat) : List Pc → List Rfr → (List Rfr → Res) → Res
  | [], acc, K => K acc
  | p :: ps, acc, K => if refB p = true then
      match judge dir p with
      | .error c => .error ⟨c, src, p.line, p.col, p.name⟩
      | .ok k => goP dir fr src ps (acc ++ [⟨fr, k, noteI p, p.name, p.line, p.col⟩]) K
    else goP dir fr src ps acc K
def goB (dir : List Nm) (fr src : Nat) : List (List Pc) → List Rfr → (List Rfr → Res) → Res
  | [], acc, K => K acc
  | b :: bs, acc, K => goP dir fr src b acc fun a => goB dir fr src bs a K
def goT (dir : List Nm) (src : Nat) : List (List (List Pc)) → Nat → List Rfr → (Nat → List Rfr → Res) → Res
  | [], fr, acc, K => K fr acc
  | t :: ts, fr, acc, K => goB dir fr src t acc fun a => goT dir src ts (fr + 1) a K
def goS (dir : List Nm) : List (List (List (List Pc))) → Nat → Nat → List Rfr → Res
  | [], _, _, acc => .ok acc
  | s :: ss, src, fr, acc => goT dir src s fr acc fun fr a => goS dir ss (src + 1) fr a
def nP (ps : List Pc) : Nat := ps.countP refB
def nB (B : List (List Pc)) : Nat := (B.map nP).sum
def nR (T : List (List (List Pc))) : Nat := (T.map nB).sum
def nS (S : List (List (List (List Pc)))) : Nat := (S.map nR).sum
def nT (S : List (List (List (List Pc)))) : Nat := (S.map List.length).sum
def refsR (dir : List Nm) (S : List (List (List (List Pc)))) : Res := if 1000 < nT S ∨ 65536 < nS S then .error ⟨2, 0, 0, 0, ⟨#[]⟩⟩ else goS dir S 0 0 []
theorem drop_at {α : Type} {l : List α} {i : Nat} {x : α} (h : l[i]? = some x) : l.drop i = x :: l.drop (i + 1) := by
  obtain ⟨hi, rfl⟩ := List.getElem?_eq_some_iff.1 h
  exact List.drop_eq_getElem_cons hi
theorem take_at' {α : Type} {l : List α} {k : Nat} {x : α} (h : l[k]? = some x) : l.take (k + 1) = l.take k ++ [x] := by
  obtain ⟨hk, rfl⟩ := List.getElem?_eq_some_iff.1 h
  exact List.take_succ_eq_append_getElem hk
theorem goP_acc {dir : List Nm} {fr src : Nat} : ∀ {ps : List Pc} {a b : List Rfr} {K : List Rfr → Res}, goP dir fr src ps (a ++ b) K = goP dir fr src ps b fun c => K (a ++ c)
  | [], a, b, K => rfl
  | p :: ps, a, b, K => by
    unfold goP
    by_cases h : refB p = true
    · rw [if_pos h, if_pos h]
      cases judge dir p with
      | error c => rfl
      | ok k => dsimp only; rw [List.append_assoc]; exact goP_acc
    · rw [if_neg h, if_neg h]; exact goP_acc
theorem goP_code {dir : List Nm} {fr src : Nat} {Q : Flt → Prop} : ∀ {ps : List Pc} {acc : List Rfr} {K : List Rfr → Res}, (∀ p c, judge dir p = .error c → ∀ l k n, Q ⟨c, src, l, k, n⟩) → (∀ a f, K a = .error f → Q f) → ∀ f, goP dir fr src ps acc K = .error f → Q f
  | [], acc, K, _, hK, f, h => hK _ _ h
  | p :: ps, acc, K, hJ, hK, f, h => by
    unfold goP at h
    by_cases h2 : refB p = true
    · rw [if_pos h2] at h
      cases hj : judge dir p with
      | error c => rw [hj] at h; cases h; exact hJ p c hj _ _ _
      | ok k => rw [hj] at h; exact goP_code hJ hK f h
    · rw [if_neg h2] at h; exact goP_code hJ hK f h
end Go.Proofs.YtkaoipegbjmlnaaDoor
