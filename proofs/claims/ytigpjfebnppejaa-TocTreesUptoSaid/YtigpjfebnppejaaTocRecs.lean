/-
  TOC, RECORDS: a topic of eight cells, a source of two, how they lie.
-/
import Derived.Test.YtigpjfebnppejaaRecs
import Derived.Test.YtigpjfebnppejaaTocPlain7
namespace Go.Proofs.Ytigpjfebnppejaa
open Go.RowKit

/-- a topic's cells: only name, level and line are said -/
def topC (name : ByteArray) (line : Int) (l : Int) : List Value := [.int .i64 0, .string name, .string ⟨#[]⟩, .int .i64 l, .slice none 0 0, .slice none 0 0, .slice none 0 0, .int .i64 line]
def encTop (name : ByteArray) (line : Int) : Enc Int := ⟨8, topC name line, fun _ => rfl, fun x u hu => by
  simp only [topC, List.mem_cons, List.not_mem_nil, or_false] at hu
  rcases hu with rfl | rfl | rfl | rfl | rfl | rfl | rfl | rfl <;> rfl⟩
/-- a slice value's three parts -/
abbrev Sl := Option Addr × Nat × Nat
def Sl.v (x : Sl) : Value := .slice x.1 x.2.1 x.2.2
def srcC (x : Sl) : List Value := [.slice none 0 0, x.v]
def encSrc : Enc Sl := ⟨2, srcC, fun _ => rfl, fun x u hu => by
  simp only [srcC, List.mem_cons, List.not_mem_nil, or_false] at hu
  rcases hu with rfl | rfl <;> rfl⟩
/-- the sources that ts are, with the levels LL -/
def Within (name : ByteArray) (line : Int) (w : World) (ts : List Sl) (LL : List (List Int)) : Prop :=
  ts.length = LL.length ∧ ∀ i x, ts[i]? = some x → Recs (encTop name line) w x.v (LL.getD i [])
theorem Within.old {name : ByteArray} {line : Int} {w W : World} {ts : List Sl} {LL : List (List Int)} (h : Within name line w ts LL) (o : Old w W) : Within name line W ts LL := ⟨h.1, fun i x hx => (h.2 i x hx).old o⟩
def Srcs (name : ByteArray) (line : Int) (w : World) (v : Value) (LL : List (List Int)) : Prop := ∃ ts, Recs encSrc w v ts ∧ Within name line w ts LL
theorem Srcs.old {name : ByteArray} {line : Int} {w W : World} {v : Value} {LL : List (List Int)} (h : Srcs name line w v LL) (o : Old w W) : Srcs name line W v LL := by
  obtain ⟨ts, h1, h2⟩ := h
  exact ⟨ts, h1.old o, h2.old o⟩
theorem Srcs.form {name : ByteArray} {line : Int} {w : World} {v : Value} {LL : List (List Int)} (h : Srcs name line w v LL) : ∃ a cap, v = .slice a LL.length cap ∧ LL.length ≤ cap ∧ cap ≤ 9223372036854775807 := by
  obtain ⟨ts, h1, h2⟩ := h
  have := h1.form
  rwa [h2.1] at this
/-- what lies at the i-th source -/
theorem Srcs.at {name : ByteArray} {line : Int} {w : World} {a : Option Addr} {n cap : Nat} {LL : List (List Int)} (h : Srcs name line w (.slice a n cap) LL) {i : Nat} (hi : i < LL.length) :
    ∃ b off x, a = some ⟨b, off, none⟩ ∧ (∀ W, Old w W → W.cell? ⟨b, off + i * 2, none⟩ = some (.slice none 0 0)) ∧ (∀ W, Old w W → W.cell? ⟨b, off + i * 2 + 1, none⟩ = some (Sl.v x)) ∧ Recs (encTop name line) w (Sl.v x) (LL.getD i []) := by
  obtain ⟨ts, ⟨a', cap', b, off, e, h1, h2, h3, h4⟩, k1, k2⟩ := h
  obtain ⟨rfl, rfl, rfl⟩ := Value.slice.inj e
  have hi' : i < ts.length := by omega
  have hx : ts[i]? = some ts[i] := List.getElem?_eq_getElem hi'
  have g0 := h4 (i * 2) _ (Enc.all_at (c := encSrc) (j := 0) hx rfl)
  have g1 := h4 (i * 2 + 1) _ (Enc.all_at (c := encSrc) (j := 1) hx rfl)
  exact ⟨b, off, ts[i], h3 (by omega), g0, fun W o => by rw [Nat.add_assoc]; exact g1 W o, k2 i _ hx⟩
/-- what lies at the i-th source, its topics' slice laid open -/
theorem Srcs.at' {name : ByteArray} {line : Int} {w : World} {a : Option Addr} {n cap : Nat} {LL : List (List Int)} (h : Srcs name line w (.slice a n cap) LL) {i : Nat} (hi : i < LL.length) :
    ∃ b off ax cx, a = some ⟨b, off, none⟩ ∧ (∀ W, Old w W → W.cell? ⟨b, off + i * 2, none⟩ = some (.slice none 0 0)) ∧ (∀ W, Old w W → W.cell? ⟨b, off + i * 2 + 1, none⟩ = some (.slice ax (LL.getD i []).length cx)) ∧
      Recs (encTop name line) w (.slice ax (LL.getD i []).length cx) (LL.getD i []) ∧ (LL.getD i []).length ≤ cx ∧ cx ≤ 9223372036854775807 := by
  obtain ⟨b, off, x, e, g0, g1, hx⟩ := h.at hi
  obtain ⟨ax, cx, e2, k1, k2⟩ := hx.form
  rw [e2] at g1 hx
  exact ⟨b, off, ax, cx, e, g0, g1, hx, k1, k2⟩
theorem topC_at {name : ByteArray} {line : Int} {w : World} {a : Option Addr} {n cap : Nat} {ls : List Int} (h : Recs (encTop name line) w (.slice a n cap) ls) {i : Nat} (hi : i < ls.length) :
    ∃ b off, a = some ⟨b, off, none⟩ ∧ ∀ j u, (topC name line (ix ls i))[j]? = some u → ∀ W, Old w W → W.cell? ⟨b, off + (i * 8 + j), none⟩ = some u := by
  obtain ⟨a', cap', b, off, e, h1, h2, h3, h4⟩ := h
  obtain ⟨rfl, rfl, rfl⟩ := Value.slice.inj e
  have hx : ls[i]? = some (ix ls i) := by simp [ix, List.getD, List.getElem?_eq_getElem hi]
  exact ⟨b, off, h3 (by omega), fun j u hu => h4 _ u (Enc.all_at (c := encTop name line) hx hu)⟩
end Go.Proofs.Ytigpjfebnppejaa
