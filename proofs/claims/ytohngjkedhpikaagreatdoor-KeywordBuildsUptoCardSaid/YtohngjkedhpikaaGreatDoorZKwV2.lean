/-
  KEYWORD, V: TEXTS OF ASCII, PLAIN; the chapter's example's values; over no program.
-/
import Derived.Test.YtohngjkedhpikaaGreatDoorZKwS
import Derived.Test.YtohngjkedhpikaaGreatDoorZKwCp
import Derived.Lib.TrimAscii
import Derived.Test.YtohngjkedhpikaaGreatDoorZTextJoin
import Derived.Test.YtohngjkedhpikaaGreatDoorZKwQ
namespace Go.Proofs.YtohngjkedhpikaaGreatDoor
open Go.RowKit

def Asc (l : List UInt8) : Prop := ∀ b ∈ l, 32 ≤ b.toNat ∧ b.toNat < 127
theorem Asc.of (l : List UInt8) (h : l.all (fun b => decide (32 ≤ b.toNat) && decide (b.toNat < 127)) = true) : Asc l := fun b hb => by
  have := List.all_eq_true.1 h b hb
  simpa using this
def lowB (b : UInt8) : UInt8 := (smallC (b.toNat : Int)).toNat.toUInt8
/-- folded, from the rest on -/
def foldA : List UInt8 → Bool → List UInt8 → List UInt8
  | [], _, t => t
  | b :: r, wt, t => if b.toNat = 32 then foldA r (decide (0 < t.length)) t else foldA r false ((if wt then t ++ [32] else t) ++ [lowB b])
section
variable {l r : List UInt8} {p : Nat} {b : UInt8}
theorem asc_at (h : Asc l) (hd : l.drop p = b :: r) : chR l p = b.toNat ∧ chN l p = 1 ∧ badC l p = false ∧ l.drop (p + 1) = r ∧ p < l.length ∧ 32 ≤ b.toNat ∧ b.toNat < 127 := by
  have hb : b ∈ l := List.mem_of_mem_drop (i := p) (by rw [hd]; simp)
  have h1 := h b hb
  have hde := Lib.decodeL_ascii b r (by omega)
  have hr : chR l p = b.toNat := by unfold chR; rw [hd, hde]
  have hn : chN l p = 1 := by unfold chN; rw [hd, hde]
  have hp : p < l.length := by
    rcases Nat.lt_or_ge p l.length with c | c
    · exact c
    · rw [List.drop_of_length_le c] at hd; cases hd
  refine ⟨hr, hn, ?_, ?_, hp, h1⟩
  · unfold badC
    rw [hr]
    have : (b.toNat == 65533) = false := by simp; omega
    rw [this]; rfl
  · rw [← List.drop_drop, hd]; rfl
theorem small_asc (h : b.toNat < 127) : 0 ≤ smallC (b.toNat : Int) ∧ smallC (b.toNat : Int) ≤ 127 := by
  unfold smallC
  split
  · omega
  · split <;> omega
theorem foldGo_asc {s : ByteArray} (h : Asc s.data.toList) : ∀ (r : List UInt8) (p : Nat) (wt : Bool) (t : List UInt8), s.data.toList.drop p = r → foldGo s p wt t = foldA r wt t
  | [], p, wt, t, hd => by
    have : ¬ p < s.size := by
      intro hp
      have := congrArg List.length hd
      rw [List.length_drop, str_len] at this
      simp at this; omega
    rw [foldGo_end this]; rfl
  | b :: r, p, wt, t, hd => by
    obtain ⟨h1, h2, h3, h4, h5, h6, h7⟩ := asc_at h hd
    rw [str_len] at h5
    unfold foldA
    by_cases e : b.toNat = 32
    · rw [if_pos e, foldGo_sp h5 (h1.trans e)]
      exact foldGo_asc h r (p + 1) _ _ h4
    · have hc : foldC s p = [lowB b] := by
        unfold foldC
        rw [h3, h1]
        have := small_asc (b := b) h7
        show Lib.encodeRune (smallC (b.toNat : Int)) = _
        unfold Lib.encodeRune
        rw [Lib.encodeRuneZ_one this.1 this.2]
        rfl
      rw [if_neg e, foldGo_on h5 (by rw [h1]; exact e), h2, hc]
      exact foldGo_asc h r (p + 1) _ _ h4
theorem foldS_asc {s : ByteArray} (h : Asc s.data.toList) : foldS s = ⟨(foldA s.data.toList false []).toArray⟩ := by
  unfold foldS foldB
  rw [foldGo_asc h s.data.toList 0 false [] rfl]
theorem plainAt_asc (h : Asc l) : ∀ (r : List UInt8) (p : Nat), l.drop p = r → plainAt l p = (0, true)
  | [], p, hd => by
    have : ¬ p < l.length := by
      intro hp
      have := congrArg List.length hd
      rw [List.length_drop] at this
      simp at this; omega
    exact plainAt_end this
  | b :: r, p, hd => by
    obtain ⟨h1, h2, h3, h4, h5, h6, h7⟩ := asc_at h hd
    have hc : (ctlR (chR l p) || badC l p) = false := by
      rw [h3, h1, Bool.or_false]
      unfold ctlR
      have a1 : decide (((b.toNat : Nat) : Int) < 32) = false := by rw [decide_eq_false_iff_not]; omega
      have a2 : decide ((127 : Int) ≤ ((b.toNat : Nat) : Int)) = false := by rw [decide_eq_false_iff_not]; omega
      rw [a1, a2]; rfl
    rw [plainAt_on h5 hc, h2]
    exact plainAt_asc h r (p + 1) h4
end
def kColor : ByteArray := ⟨#[67, 111, 108, 111, 114]⟩
def kLinks : ByteArray := ⟨#[111, 102, 32, 108, 105, 110, 107, 115]⟩
def kPrint : ByteArray := ⟨#[80, 114, 105, 110, 116]⟩
def kprint : ByteArray := ⟨#[112, 114, 105, 110, 116]⟩
def kcolor : ByteArray := ⟨#[99, 111, 108, 111, 114]⟩
def kColour : ByteArray := ⟨#[67, 111, 108, 111, 117, 114]⟩
def kcolour : ByteArray := ⟨#[99, 111, 108, 111, 117, 114]⟩
def kCOLOR : ByteArray := ⟨#[67, 79, 76, 79, 82]⟩
theorem f_kColor : foldS kColor = kcolor := by rw [foldS_asc (.of _ (by decide))]; rfl
theorem f_kLinks : foldS kLinks = kLinks := by rw [foldS_asc (.of _ (by decide))]; rfl
theorem f_kPrint : foldS kPrint = kprint := by rw [foldS_asc (.of _ (by decide))]; rfl
theorem f_kprint : foldS kprint = kprint := by rw [foldS_asc (.of _ (by decide))]; rfl
theorem f_kcolor : foldS kcolor = kcolor := by rw [foldS_asc (.of _ (by decide))]; rfl
theorem f_kColour : foldS kColour = kcolour := by rw [foldS_asc (.of _ (by decide))]; rfl
theorem f_kcolour : foldS kcolour = kcolour := by rw [foldS_asc (.of _ (by decide))]; rfl
theorem f_kCOLOR : foldS kCOLOR = kcolor := by rw [foldS_asc (.of _ (by decide))]; rfl
theorem m_kColor : mayT kColor = true := by
  unfold mayT
  rw [plainAt_asc (.of _ (by decide)) _ 0 rfl, f_kColor]
  decide
theorem m_kLinks : mayT kLinks = true := by
  unfold mayT
  rw [plainAt_asc (.of _ (by decide)) _ 0 rfl, f_kLinks]
  decide
theorem m_kPrint : mayT kPrint = true := by
  unfold mayT
  rw [plainAt_asc (.of _ (by decide)) _ 0 rfl, f_kPrint]
  decide
theorem m_kprint : mayT kprint = true := by
  unfold mayT
  rw [plainAt_asc (.of _ (by decide)) _ 0 rfl, f_kprint]
  decide
theorem m_kcolor : mayT kcolor = true := by
  unfold mayT
  rw [plainAt_asc (.of _ (by decide)) _ 0 rfl, f_kcolor]
  decide
theorem m_kColour : mayT kColour = true := by
  unfold mayT
  rw [plainAt_asc (.of _ (by decide)) _ 0 rfl, f_kColour]
  decide
theorem wid_c : widC 99 = 1 := by kernel_rfl
theorem base_c : baseEls 99 = [⟨2, 99, ⟨#[]⟩⟩] := by
  have hb : (baseC ((99 : Nat) : Int)).data.toList = [99] := by kernel_rfl
  unfold baseEls
  rw [hb, charsAt_on (by decide), show chN [99] 0 = 1 from by kernel_rfl, charsAt_end (by decide)]
  rfl
theorem wid_i : widC 105 = 1 := by kernel_rfl
theorem base_i : baseEls 105 = [⟨2, 105, ⟨#[]⟩⟩] := by
  have hb : (baseC ((105 : Nat) : Int)).data.toList = [105] := by kernel_rfl
  unfold baseEls
  rw [hb, charsAt_on (by decide), show chN [105] 0 = 1 from by kernel_rfl, charsAt_end (by decide)]
  rfl
theorem wid_l : widC 108 = 1 := by kernel_rfl
theorem base_l : baseEls 108 = [⟨2, 108, ⟨#[]⟩⟩] := by
  have hb : (baseC ((108 : Nat) : Int)).data.toList = [108] := by kernel_rfl
  unfold baseEls
  rw [hb, charsAt_on (by decide), show chN [108] 0 = 1 from by kernel_rfl, charsAt_end (by decide)]
  rfl
theorem wid_n : widC 110 = 1 := by kernel_rfl
theorem base_n : baseEls 110 = [⟨2, 110, ⟨#[]⟩⟩] := by
  have hb : (baseC ((110 : Nat) : Int)).data.toList = [110] := by kernel_rfl
  unfold baseEls
  rw [hb, charsAt_on (by decide), show chN [110] 0 = 1 from by kernel_rfl, charsAt_end (by decide)]
  rfl
theorem wid_o : widC 111 = 1 := by kernel_rfl
theorem base_o : baseEls 111 = [⟨2, 111, ⟨#[]⟩⟩] := by
  have hb : (baseC ((111 : Nat) : Int)).data.toList = [111] := by kernel_rfl
  unfold baseEls
  rw [hb, charsAt_on (by decide), show chN [111] 0 = 1 from by kernel_rfl, charsAt_end (by decide)]
  rfl
theorem wid_p : widC 112 = 1 := by kernel_rfl
theorem base_p : baseEls 112 = [⟨2, 112, ⟨#[]⟩⟩] := by
  have hb : (baseC ((112 : Nat) : Int)).data.toList = [112] := by kernel_rfl
  unfold baseEls
  rw [hb, charsAt_on (by decide), show chN [112] 0 = 1 from by kernel_rfl, charsAt_end (by decide)]
  rfl
theorem wid_r : widC 114 = 1 := by kernel_rfl
theorem base_r : baseEls 114 = [⟨2, 114, ⟨#[]⟩⟩] := by
  have hb : (baseC ((114 : Nat) : Int)).data.toList = [114] := by kernel_rfl
  unfold baseEls
  rw [hb, charsAt_on (by decide), show chN [114] 0 = 1 from by kernel_rfl, charsAt_end (by decide)]
  rfl
theorem wid_t : widC 116 = 1 := by kernel_rfl
theorem base_t : baseEls 116 = [⟨2, 116, ⟨#[]⟩⟩] := by
  have hb : (baseC ((116 : Nat) : Int)).data.toList = [116] := by kernel_rfl
  unfold baseEls
  rw [hb, charsAt_on (by decide), show chN [116] 0 = 1 from by kernel_rfl, charsAt_end (by decide)]
  rfl
theorem wid_u : widC 117 = 1 := by kernel_rfl
theorem base_u : baseEls 117 = [⟨2, 117, ⟨#[]⟩⟩] := by
  have hb : (baseC ((117 : Nat) : Int)).data.toList = [117] := by kernel_rfl
  unfold baseEls
  rw [hb, charsAt_on (by decide), show chN [117] 0 = 1 from by kernel_rfl, charsAt_end (by decide)]
  rfl
theorem els_kcolor : elsS kcolor = [⟨2, 99, ⟨#[]⟩⟩, ⟨2, 111, ⟨#[]⟩⟩, ⟨2, 108, ⟨#[]⟩⟩, ⟨2, 111, ⟨#[]⟩⟩, ⟨2, 114, ⟨#[]⟩⟩] := by
  have h0 : elStep kcolor 0 = ([⟨2, 99, ⟨#[]⟩⟩], 1) := by
    unfold elStep
    rw [if_neg (show ¬ 0 < dgAt kcolor 0 from by decide), show chR kcolor.data.toList 0 = 99 from by kernel_rfl, show chN kcolor.data.toList 0 = 1 from by kernel_rfl, if_neg (by rw [show widC ((99 : Nat) : Int) = 1 from wid_c]; decide), base_c]
  have h1 : elStep kcolor 1 = ([⟨2, 111, ⟨#[]⟩⟩], 2) := by
    unfold elStep
    rw [if_neg (show ¬ 0 < dgAt kcolor 1 from by decide), show chR kcolor.data.toList 1 = 111 from by kernel_rfl, show chN kcolor.data.toList 1 = 1 from by kernel_rfl, if_neg (by rw [show widC ((111 : Nat) : Int) = 1 from wid_o]; decide), base_o]
  have h2 : elStep kcolor 2 = ([⟨2, 108, ⟨#[]⟩⟩], 3) := by
    unfold elStep
    rw [if_neg (show ¬ 0 < dgAt kcolor 2 from by decide), show chR kcolor.data.toList 2 = 108 from by kernel_rfl, show chN kcolor.data.toList 2 = 1 from by kernel_rfl, if_neg (by rw [show widC ((108 : Nat) : Int) = 1 from wid_l]; decide), base_l]
  have h3 : elStep kcolor 3 = ([⟨2, 111, ⟨#[]⟩⟩], 4) := by
    unfold elStep
    rw [if_neg (show ¬ 0 < dgAt kcolor 3 from by decide), show chR kcolor.data.toList 3 = 111 from by kernel_rfl, show chN kcolor.data.toList 3 = 1 from by kernel_rfl, if_neg (by rw [show widC ((111 : Nat) : Int) = 1 from wid_o]; decide), base_o]
  have h4 : elStep kcolor 4 = ([⟨2, 114, ⟨#[]⟩⟩], 5) := by
    unfold elStep
    rw [if_neg (show ¬ 0 < dgAt kcolor 4 from by decide), show chR kcolor.data.toList 4 = 114 from by kernel_rfl, show chN kcolor.data.toList 4 = 1 from by kernel_rfl, if_neg (by rw [show widC ((114 : Nat) : Int) = 1 from wid_r]; decide), base_r]
  unfold elsS
  rw [elsGo_on (by decide), h0, elsGo_on (by decide), h1, elsGo_on (by decide), h2, elsGo_on (by decide), h3, elsGo_on (by decide), h4, elsGo_end (by decide)]
  rfl
theorem els_kcolour : elsS kcolour = [⟨2, 99, ⟨#[]⟩⟩, ⟨2, 111, ⟨#[]⟩⟩, ⟨2, 108, ⟨#[]⟩⟩, ⟨2, 111, ⟨#[]⟩⟩, ⟨2, 117, ⟨#[]⟩⟩, ⟨2, 114, ⟨#[]⟩⟩] := by
  have h0 : elStep kcolour 0 = ([⟨2, 99, ⟨#[]⟩⟩], 1) := by
    unfold elStep
    rw [if_neg (show ¬ 0 < dgAt kcolour 0 from by decide), show chR kcolour.data.toList 0 = 99 from by kernel_rfl, show chN kcolour.data.toList 0 = 1 from by kernel_rfl, if_neg (by rw [show widC ((99 : Nat) : Int) = 1 from wid_c]; decide), base_c]
  have h1 : elStep kcolour 1 = ([⟨2, 111, ⟨#[]⟩⟩], 2) := by
    unfold elStep
    rw [if_neg (show ¬ 0 < dgAt kcolour 1 from by decide), show chR kcolour.data.toList 1 = 111 from by kernel_rfl, show chN kcolour.data.toList 1 = 1 from by kernel_rfl, if_neg (by rw [show widC ((111 : Nat) : Int) = 1 from wid_o]; decide), base_o]
  have h2 : elStep kcolour 2 = ([⟨2, 108, ⟨#[]⟩⟩], 3) := by
    unfold elStep
    rw [if_neg (show ¬ 0 < dgAt kcolour 2 from by decide), show chR kcolour.data.toList 2 = 108 from by kernel_rfl, show chN kcolour.data.toList 2 = 1 from by kernel_rfl, if_neg (by rw [show widC ((108 : Nat) : Int) = 1 from wid_l]; decide), base_l]
  have h3 : elStep kcolour 3 = ([⟨2, 111, ⟨#[]⟩⟩], 4) := by
    unfold elStep
    rw [if_neg (show ¬ 0 < dgAt kcolour 3 from by decide), show chR kcolour.data.toList 3 = 111 from by kernel_rfl, show chN kcolour.data.toList 3 = 1 from by kernel_rfl, if_neg (by rw [show widC ((111 : Nat) : Int) = 1 from wid_o]; decide), base_o]
  have h4 : elStep kcolour 4 = ([⟨2, 117, ⟨#[]⟩⟩], 5) := by
    unfold elStep
    rw [if_neg (show ¬ 0 < dgAt kcolour 4 from by decide), show chR kcolour.data.toList 4 = 117 from by kernel_rfl, show chN kcolour.data.toList 4 = 1 from by kernel_rfl, if_neg (by rw [show widC ((117 : Nat) : Int) = 1 from wid_u]; decide), base_u]
  have h5 : elStep kcolour 5 = ([⟨2, 114, ⟨#[]⟩⟩], 6) := by
    unfold elStep
    rw [if_neg (show ¬ 0 < dgAt kcolour 5 from by decide), show chR kcolour.data.toList 5 = 114 from by kernel_rfl, show chN kcolour.data.toList 5 = 1 from by kernel_rfl, if_neg (by rw [show widC ((114 : Nat) : Int) = 1 from wid_r]; decide), base_r]
  unfold elsS
  rw [elsGo_on (by decide), h0, elsGo_on (by decide), h1, elsGo_on (by decide), h2, elsGo_on (by decide), h3, elsGo_on (by decide), h4, elsGo_on (by decide), h5, elsGo_end (by decide)]
  rfl
theorem els_kprint : elsS kprint = [⟨2, 112, ⟨#[]⟩⟩, ⟨2, 114, ⟨#[]⟩⟩, ⟨2, 105, ⟨#[]⟩⟩, ⟨2, 110, ⟨#[]⟩⟩, ⟨2, 116, ⟨#[]⟩⟩] := by
  have h0 : elStep kprint 0 = ([⟨2, 112, ⟨#[]⟩⟩], 1) := by
    unfold elStep
    rw [if_neg (show ¬ 0 < dgAt kprint 0 from by decide), show chR kprint.data.toList 0 = 112 from by kernel_rfl, show chN kprint.data.toList 0 = 1 from by kernel_rfl, if_neg (by rw [show widC ((112 : Nat) : Int) = 1 from wid_p]; decide), base_p]
  have h1 : elStep kprint 1 = ([⟨2, 114, ⟨#[]⟩⟩], 2) := by
    unfold elStep
    rw [if_neg (show ¬ 0 < dgAt kprint 1 from by decide), show chR kprint.data.toList 1 = 114 from by kernel_rfl, show chN kprint.data.toList 1 = 1 from by kernel_rfl, if_neg (by rw [show widC ((114 : Nat) : Int) = 1 from wid_r]; decide), base_r]
  have h2 : elStep kprint 2 = ([⟨2, 105, ⟨#[]⟩⟩], 3) := by
    unfold elStep
    rw [if_neg (show ¬ 0 < dgAt kprint 2 from by decide), show chR kprint.data.toList 2 = 105 from by kernel_rfl, show chN kprint.data.toList 2 = 1 from by kernel_rfl, if_neg (by rw [show widC ((105 : Nat) : Int) = 1 from wid_i]; decide), base_i]
  have h3 : elStep kprint 3 = ([⟨2, 110, ⟨#[]⟩⟩], 4) := by
    unfold elStep
    rw [if_neg (show ¬ 0 < dgAt kprint 3 from by decide), show chR kprint.data.toList 3 = 110 from by kernel_rfl, show chN kprint.data.toList 3 = 1 from by kernel_rfl, if_neg (by rw [show widC ((110 : Nat) : Int) = 1 from wid_n]; decide), base_n]
  have h4 : elStep kprint 4 = ([⟨2, 116, ⟨#[]⟩⟩], 5) := by
    unfold elStep
    rw [if_neg (show ¬ 0 < dgAt kprint 4 from by decide), show chR kprint.data.toList 4 = 116 from by kernel_rfl, show chN kprint.data.toList 4 = 1 from by kernel_rfl, if_neg (by rw [show widC ((116 : Nat) : Int) = 1 from wid_t]; decide), base_t]
  unfold elsS
  rw [elsGo_on (by decide), h0, elsGo_on (by decide), h1, elsGo_on (by decide), h2, elsGo_on (by decide), h3, elsGo_on (by decide), h4, elsGo_end (by decide)]
  rfl
theorem c_kcolor_kcolour : compareT kcolor kcolour = -1 := by
  have h : lexL cmpEl (elsS kcolor) (elsS kcolour) = -1 := by rw [els_kcolor, els_kcolour]; kernel_rfl
  unfold compareT
  rw [if_neg (by decide), h]
  rfl
theorem c_kcolor_kprint : compareT kcolor kprint = -1 := by
  have h : lexL cmpEl (elsS kcolor) (elsS kprint) = -1 := by rw [els_kcolor, els_kprint]; kernel_rfl
  unfold compareT
  rw [if_neg (by decide), h]
  rfl
theorem c_kcolour_kprint : compareT kcolour kprint = -1 := by
  have h : lexL cmpEl (elsS kcolour) (elsS kprint) = -1 := by rw [els_kcolour, els_kprint]; kernel_rfl
  unfold compareT
  rw [if_neg (by decide), h]
  rfl
/-- the chapter's sources -/
def exS : List (List Tk) := [[⟨[⟨kColor, kLinks, 0⟩, ⟨kPrint, noB, 0⟩], []⟩, ⟨[⟨kprint, noB, 0⟩, ⟨kcolor, noB, 0⟩], [⟨kColour, kcolor, 0⟩]⟩]]
def exM : List Mn := [⟨0, 0, 0, kColor, kLinks, noB, 0⟩, ⟨0, 0, 0, kPrint, noB, noB, 0⟩, ⟨1, 0, 0, kprint, noB, noB, 0⟩, ⟨1, 0, 0, kcolor, noB, noB, 0⟩, ⟨1, 0, 0, kColour, noB, kcolor, 1⟩]
theorem ex_mns : mns exS exS.length = exM := rfl
theorem ex_tot : totK exS exS.length = 2 := rfl
end Go.Proofs.YtohngjkedhpikaaGreatDoor
/-
  KEYWORD, V2, PLAIN: the chapter's example: its index; over no program.
-/



namespace Go.Proofs.YtohngjkedhpikaaGreatDoor
open Go.RowKit

def placesP (P : List Pl) : List Pl := P.foldl (fun acc p => if p ∈ acc then acc else acc ++ [p]) []
theorem places_map (M : List Mn) : places M = placesP (M.map Mn.pl) := by
  unfold places placesP
  rw [List.foldl_map]
  rfl
theorem ex_pls : exM.map Mn.pl = [(kcolor, kLinks), (kprint, noB), (kprint, noB), (kcolor, noB), (kcolour, noB)] := by
  simp only [exM, List.map_cons, List.map_nil, Mn.pl, f_kColor, f_kLinks, f_kPrint, f_kprint, f_kcolor, f_kColour, foldS_nil]
theorem ex_places : places exM = [(kcolor, kLinks), (kprint, noB), (kcolor, noB), (kcolour, noB)] := by
  rw [places_map, ex_pls]
  decide
theorem cc_self (a : ByteArray) : compareT a a = 0 := compareT_zero.2 rfl
theorem ex_srt : srt cmpP (places exM) = [(kcolor, noB), (kcolor, kLinks), (kcolour, noB), (kprint, noB)] := by
  rw [ex_places]
  symm
  refine srt_unique cmpP_ord (fun _ _ _ _ h => cmpP_zero.1 h) (by decide) ?_
  have h1 : cmpP (kcolor, noB) (kcolor, kLinks) = -1 := by unfold cmpP; rw [if_pos (cc_self _)]; exact compareT_nil (by decide)
  have h2 : ∀ x y, cmpP (kcolor, x) (kcolour, y) = -1 := fun x y => by unfold cmpP; rw [if_neg (by rw [c_kcolor_kcolour]; decide)]; exact c_kcolor_kcolour
  have h3 : ∀ x y, cmpP (kcolor, x) (kprint, y) = -1 := fun x y => by unfold cmpP; rw [if_neg (by rw [c_kcolor_kprint]; decide)]; exact c_kcolor_kprint
  have h4 : ∀ x y, cmpP (kcolour, x) (kprint, y) = -1 := fun x y => by unfold cmpP; rw [if_neg (by rw [c_kcolour_kprint]; decide)]; exact c_kcolour_kprint
  simp only [List.pairwise_cons, List.mem_cons, List.not_mem_nil, or_false, forall_eq_or_imp, forall_eq, h1, h2, h3, h4]
  refine ⟨⟨by decide, by decide, by decide⟩, ⟨by decide, by decide⟩, by decide, ?_⟩
  simp
theorem ex_ix : ixOf exM = [ixE exM (kcolor, noB), ixE exM (kcolor, kLinks), ixE exM (kcolour, noB), ixE exM (kprint, noB)] := by
  unfold ixOf
  rw [ex_srt]; rfl
theorem ex_term : (ixE exM (kcolor, noB)).term = kColor := by
  show (termO exM kcolor).getD noB = kColor
  unfold termO
  simp only [exM, List.find?_cons, f_kColor, decide_true]
  rfl
theorem ex_sub : (ixE exM (kcolor, noB)).sub = noB := by
  show (subO exM (kcolor, noB)).getD noB = noB
  unfold subO
  have e : exM.find? (fun m => decide (m.pl = (kcolor, noB))) = some ⟨1, 0, 0, kcolor, noB, noB, 0⟩ := by
    simp only [exM, List.find?_cons, Mn.pl, f_kColor, f_kLinks, f_kPrint, f_kprint, f_kcolor, f_kColour, foldS_nil]
    rw [show decide ((kcolor, kLinks) = (kcolor, noB)) = false from by decide, show decide ((kprint, noB) = (kcolor, noB)) = false from by decide]
    rfl
  rw [e]; rfl
theorem ex_sees : (ixE exM (kcolour, noB)).sees.length = 1 := by
  show (srt cmpS (seesOf exM (kcolour, noB))).length = 1
  rw [srt_length]
  have e : seesOf exM (kcolour, noB) = [kcolor] := by
    unfold seesOf exM
    simp only [List.foldl_cons, List.foldl_nil, seeStep, Mn.pl, f_kColor, f_kLinks, f_kPrint, f_kprint, f_kcolor, f_kColour, foldS_nil]
    simp
  rw [e]; rfl
theorem ex_topics : (ixE exM (kprint, noB)).topics.length = 2 := by
  show (topicsOf exM (kprint, noB)).length = 2
  have e : topicsOf exM (kprint, noB) = [0, 1] := by
    unfold topicsOf exM
    simp only [List.foldl_cons, List.foldl_nil, topStep, Mn.pl, f_kColor, f_kLinks, f_kPrint, f_kprint, f_kcolor, f_kColour, foldS_nil]
    decide
  rw [e]; rfl
theorem ex_edge {a b : ByteArray} : edgeM exM a b ↔ a = kcolour ∧ b = kcolor := by
  unfold edgeM exM
  constructor
  · rintro ⟨m, hm, h1, h2, h3⟩
    simp only [List.mem_cons, List.not_mem_nil, or_false] at hm
    rcases hm with rfl | rfl | rfl | rfl | rfl
    · exact absurd h1 (by decide)
    · exact absurd h1 (by decide)
    · exact absurd h1 (by decide)
    · exact absurd h1 (by decide)
    · exact ⟨h2.symm.trans f_kColour, h3.symm.trans f_kcolor⟩
  · rintro ⟨rfl, rfl⟩
    exact ⟨⟨1, 0, 0, kColour, noB, kcolor, 1⟩, by simp, rfl, f_kColour, f_kcolor⟩
theorem ex_reach {x : ByteArray} (h : Rch (edgeM exM) kcolor x) : x = kcolor := by
  induction h with
  | refl => rfl
  | step _ he ih =>
    subst ih
    exact absurd (ex_edge.1 he).1 (by decide)
theorem ex_see : ∀ m ∈ exM, m.see = 0 ∨ (m.see = 1 ∧ m.sub = noB) := by
  intro m hm
  unfold exM at hm
  simp only [List.mem_cons, List.not_mem_nil, or_false] at hm
  rcases hm with rfl | rfl | rfl | rfl | rfl
  · exact .inl rfl
  · exact .inl rfl
  · exact .inl rfl
  · exact .inl rfl
  · exact .inr ⟨rfl, rfl⟩
theorem ex_good : GoodM exM where
  may m hm := by
    unfold exM at hm
    simp only [List.mem_cons, List.not_mem_nil, or_false] at hm
    rcases hm with rfl | rfl | rfl | rfl | rfl
    · exact ⟨m_kColor, .inr m_kLinks, fun h => absurd h (by decide)⟩
    · exact ⟨m_kPrint, .inl rfl, fun h => absurd h (by decide)⟩
    · exact ⟨m_kprint, .inl rfl, fun h => absurd h (by decide)⟩
    · exact ⟨m_kcolor, .inl rfl, fun h => absurd h (by decide)⟩
    · exact ⟨m_kColour, .inl rfl, fun _ => m_kcolor⟩
  has m hm h1 := by
    unfold exM at hm
    simp only [List.mem_cons, List.not_mem_nil, or_false] at hm
    rcases hm with rfl | rfl | rfl | rfl | rfl
    · exact absurd h1 (by decide)
    · exact absurd h1 (by decide)
    · exact absurd h1 (by decide)
    · exact absurd h1 (by decide)
    · refine ⟨⟨⟨1, 0, 0, kcolor, noB, noB, 0⟩, by simp [exM], rfl⟩, fun h => ?_⟩
      dsimp only at h
      rw [f_kcolor, f_kColour] at h
      exact absurd (ex_reach h) (by decide)
theorem ex_build : buildK exS.length (totK exS exS.length) exM = .ok (ixOf exM) := buildK_ok (by decide) (by rw [ex_places]; decide) ex_good.term ex_good.see
theorem ex_check : CheckK (ixOf exM) 2 0 0 := by
  have h := mns_rise exS exS.length (Nat.le_refl _)
  rw [ex_mns, ex_tot] at h
  exact check_ix ex_good h ex_see (by rw [ex_places]; decide)
theorem ex_tops {r : List Int} (h : IsTops (ixOf exM) kcolor r) : r.length = 2 := by
  have e : r = [0, 1] := by
    refine h.unique ⟨by decide, fun x => ?_⟩
    constructor
    · intro hx
      simp only [List.mem_cons, List.not_mem_nil, or_false] at hx
      rcases hx with rfl | rfl
      · refine ⟨ixE exM (kcolor, kLinks), ix_mem.2 ⟨_, by rw [ex_places]; simp, rfl⟩, (ent_term (by rw [ex_places]; simp)).1, ?_⟩
        exact topicsOf_mem.2 ⟨⟨0, 0, 0, kColor, kLinks, noB, 0⟩, by simp [exM], by unfold Mn.pl; rw [f_kColor, f_kLinks], by decide, rfl⟩
      · refine ⟨ixE exM (kcolor, noB), ix_mem.2 ⟨_, by rw [ex_places]; simp, rfl⟩, (ent_term (by rw [ex_places]; simp)).1, ?_⟩
        exact topicsOf_mem.2 ⟨⟨1, 0, 0, kcolor, noB, noB, 0⟩, by simp [exM], by unfold Mn.pl; rw [f_kcolor, foldS_nil], by decide, rfl⟩
    · rintro ⟨e, he, _, hx⟩
      obtain ⟨p, hp, rfl⟩ := ix_mem.1 he
      obtain ⟨m, hm, _, _, rfl⟩ := topicsOf_mem.1 hx
      unfold exM at hm
      simp only [List.mem_cons, List.not_mem_nil, or_false] at hm
      rcases hm with rfl | rfl | rfl | rfl | rfl <;> simp
  rw [e]; rfl
theorem ex_follow {r : List ByteArray} (h : IsFollow (edgeL (ixOf exM)) kcolour r) : r.length = 1 := by
  have hE : ∀ a b, edgeL (ixOf exM) a b ↔ a = kcolour ∧ b = kcolor := fun a b => ⟨fun h => ex_edge.1 (edge_sub h), fun h => edge_sup ex_see ex_good (ex_edge.2 h)⟩
  have e : r = [kcolor] := by
    refine h.unique ⟨by simp, fun x => ?_⟩
    rw [List.mem_singleton]
    constructor
    · rintro rfl
      exact ⟨by decide, .step .refl ((hE _ _).2 ⟨rfl, rfl⟩)⟩
    · rintro ⟨hx, hr⟩
      rcases hr.cases_head with e | ⟨c, h1, h2⟩
      · exact absurd e.symm hx
      · obtain ⟨_, rfl⟩ := (hE _ _).1 h1
        exact ex_reach (h2.mono fun a b => edge_sub)
  rw [e]; rfl
theorem ex_head : (headK grpS (ixOf exM) (ixOf exM).length).length = 2 := by
  have t1 : ∀ x, (x = noB ∨ x = kLinks) → foldS (ixE exM (kcolor, x)).term = kcolor := fun x hx => (ent_term (p := (kcolor, x)) (by rw [ex_places]; rcases hx with rfl | rfl <;> simp)).1
  have t2 : foldS (ixE exM (kcolour, noB)).term = kcolour := (ent_term (p := (kcolour, noB)) (by rw [ex_places]; simp)).1
  have t3 : foldS (ixE exM (kprint, noB)).term = kprint := (ent_term (p := (kprint, noB)) (by rw [ex_places]; simp)).1
  have g1 : grpS kcolor = ⟨#[67]⟩ := by unfold grpS; rw [els_kcolor]; kernel_rfl
  have g2 : grpS kcolour = ⟨#[67]⟩ := by unfold grpS; rw [els_kcolour]; kernel_rfl
  have g3 : grpS kprint = ⟨#[80]⟩ := by unfold grpS; rw [els_kprint]; kernel_rfl
  rw [ex_ix]
  generalize hA : ixE exM (kcolor, noB) = A at *
  generalize hB : ixE exM (kcolor, kLinks) = B at *
  generalize hC : ixE exM (kcolour, noB) = C at *
  generalize hD : ixE exM (kprint, noB) = D at *
  have a1 : foldS A.term = kcolor := hA ▸ t1 noB (.inl rfl)
  have b1 : foldS B.term = kcolor := hB ▸ t1 kLinks (.inr rfl)
  rw [show [A, B, C, D].length = 0 + 1 + 1 + 1 + 1 from rfl, headK_snoc (e := D) rfl, headK_snoc (e := C) rfl, headK_snoc (e := B) rfl, headK_snoc (e := A) rfl]
  rw [show headK grpS [A, B, C, D] 0 = [] from rfl]
  unfold headStep
  rw [a1, b1, t2, t3, g1, g2, g3]
  decide
end Go.Proofs.YtohngjkedhpikaaGreatDoor
