/-
  TEXT, NUMBERS, PLAIN: elements of texts one behind the other; decimal digits; numbers by their values.
-/
import Derived.Test.YtjkpmdckpfklgaaDoorTextOrder
import Derived.Test.YtjkpmdckpfklgaaDoorTextDigits
import Derived.Test.YtjkpmdckpfklgaaDoorTextWideP
namespace Go.Proofs.YtjkpmdckpfklgaaDoor
open Go.RowKit

/-! ### elements, one text behind the other -/
theorem elsGo_app {s : ByteArray} : ∀ (d p : Nat) (t : List El), s.size - p = d → elsGo s p t = t ++ elsGo s p [] := by
  intro d
  induction d using Nat.strongRecOn with
  | _ d ih =>
    intro p t hd
    by_cases h : p < s.size
    · have h1 := elStep_lt s p
      rw [elsGo_on h, elsGo_on h, ih _ (by omega) _ _ rfl, List.nil_append, ih _ (by omega) _ (elStep s p).1 rfl, List.append_assoc]
    · rw [elsGo_end h, elsGo_end h, List.append_nil]
theorem extract_take (s : ByteArray) (p k : Nat) : (s.extract p (p + k)).data.toList = (s.data.toList.drop p).take k := by
  rw [extract_list, List.drop_take, Nat.add_sub_cancel_left]
theorem trimN_take (s : ByteArray) (p k : Nat) : trimN s p (p + k) = strB (Lib.trimLeftB ((s.data.toList.drop p).take k) 48) := by
  unfold trimN strB
  rw [extract_take]
theorem drop_shiftB (a b : ByteArray) (q : Nat) : (a ++ b).data.toList.drop (a.size + q) = b.data.toList.drop q := by
  rw [app_list, ← str_len, drop_shift]
theorem elStep_shift (a b : ByteArray) (q : Nat) : elStep (a ++ b) (a.size + q) = ((elStep b q).1, a.size + (elStep b q).2) := by
  have hd : dgAt (a ++ b) (a.size + q) = dgAt b q := by unfold dgAt; rw [drop_shiftB]
  have hr : chR (a ++ b).data.toList (a.size + q) = chR b.data.toList q := by rw [app_list, ← str_len, chR_shift]
  have hn : chN (a ++ b).data.toList (a.size + q) = chN b.data.toList q := by rw [app_list, ← str_len, chN_shift]
  unfold elStep
  rw [hd, hr, hn]
  by_cases h : 0 < dgAt b q
  · rw [if_pos h, if_pos h, trimN_take, trimN_take, drop_shiftB, Nat.add_assoc]
  · rw [if_neg h, if_neg h, Nat.add_assoc]
theorem elsGo_shift (a b : ByteArray) : ∀ (d q : Nat) (t : List El), b.size - q = d → elsGo (a ++ b) (a.size + q) t = elsGo b q t := by
  intro d
  induction d using Nat.strongRecOn with
  | _ d ih =>
    intro q t hd
    have hsz : (a ++ b).size = a.size + b.size := ByteArray.size_append
    by_cases h : q < b.size
    · have h1 := elStep_lt b q
      rw [elsGo_on (by omega), elsGo_on h, elStep_shift]
      exact ih _ (by omega) _ _ rfl
    · rw [elsGo_end (by omega), elsGo_end h]
/-- the last byte is no digit -/
def noDg (l : List UInt8) : Prop := ∀ b, l.getLast? = some b → isDg b = false
theorem takeWhile_len_lt {l : List UInt8} (h : l ≠ []) (hn : noDg l) : (l.takeWhile isDg).length < l.length := by
  have hle := (List.takeWhile_prefix isDg (l := l)).length_le
  rcases Nat.lt_or_ge (l.takeWhile isDg).length l.length with h1 | h1
  · exact h1
  · exfalso
    have he : l.takeWhile isDg = l := (List.takeWhile_prefix isDg).eq_of_length (by omega)
    have hx := hn (l.getLast h) (List.getLast?_eq_some_getLast h)
    have hm : l.getLast h ∈ l.takeWhile isDg := by rw [he]; exact List.getLast_mem h
    have := List.all_eq_true.1 (List.all_takeWhile (p := isDg) (l := l)) _ hm
    rw [hx] at this; cases this
theorem dgN_lead {x b : List UInt8} (h : x ≠ []) (hn : noDg x) : dgN (x ++ b) = dgN x := by
  unfold dgN
  rw [List.takeWhile_append, if_neg (by have := takeWhile_len_lt h hn; omega)]
theorem noDg_drop {l : List UInt8} {p : Nat} (h : p < l.length) (hn : noDg l) : noDg (l.drop p) := fun b hb => by
  rw [List.getLast?_drop, if_neg (by omega)] at hb
  exact hn b hb
theorem elStep_lead {a b : ByteArray} {p : Nat} (hp : p < a.size) (hb : leads b.data.toList) (hn : noDg a.data.toList) : elStep (a ++ b) p = elStep a p ∧ (elStep a p).2 ≤ a.size := by
  have hpl : p < a.data.toList.length := by rw [str_len]; exact hp
  have e : (a ++ b).data.toList.drop p = a.data.toList.drop p ++ b.data.toList := by rw [app_list]; exact List.drop_append_of_le_length (by omega)
  have hd : dgAt (a ++ b) p = dgAt a p := by unfold dgAt; rw [e, dgN_lead (drop_ne hpl) (noDg_drop hpl hn)]
  obtain ⟨hr, hc⟩ := ch_lead (a := a.data.toList) (b := b.data.toList) hpl hb
  rw [← app_list] at hr hc
  have hdl := dgN_le (a.data.toList.drop p)
  rw [List.length_drop, str_len] at hdl
  have hcl := chN_le hpl
  rw [str_len] at hcl
  unfold elStep
  rw [hd, hr, hc]
  by_cases h : 0 < dgAt a p
  · rw [if_pos h, if_pos h, trimN_take, trimN_take, e, List.take_append_of_le_length (by rw [List.length_drop, str_len]; exact hdl)]
    exact ⟨rfl, by show p + dgN _ ≤ _; omega⟩
  · rw [if_neg h, if_neg h]
    exact ⟨rfl, hcl⟩
theorem elsGo_lead {a b : ByteArray} (hb : leads b.data.toList) (hn : noDg a.data.toList) : ∀ (d p : Nat) (t : List El), a.size - p = d → p ≤ a.size → elsGo (a ++ b) p t = elsGo (a ++ b) a.size (elsGo a p t) := by
  intro d
  induction d using Nat.strongRecOn with
  | _ d ih =>
    intro p t hd hp
    have hsz : (a ++ b).size = a.size + b.size := ByteArray.size_append
    by_cases h : p < a.size
    · have h1 := elStep_lt a p
      obtain ⟨e, h2⟩ := elStep_lead h hb hn
      rw [elsGo_on (s := a ++ b) (by omega), elsGo_on h, e]
      exact ih _ (by omega) _ _ rfl h2
    · obtain rfl : p = a.size := by omega
      rw [elsGo_end (s := a) h]
/-- **the elements of two texts, one behind the other** -/
theorem elsS_app {a b : ByteArray} (hb : leads b.data.toList) (hn : noDg a.data.toList) : elsS (a ++ b) = elsS a ++ elsS b := by
  have h1 := elsGo_shift a b _ 0 (elsGo a 0 []) rfl
  rw [Nat.add_zero] at h1
  unfold elsS
  rw [elsGo_lead hb hn _ 0 [] rfl (Nat.zero_le _), h1, elsGo_app _ 0 _ rfl]
/-- digits ahead of what begins with none -/
theorem elsS_num {D b : ByteArray} (hD : ∀ x ∈ D.data.toList, isDg x = true) (hpos : 0 < D.size) (hb : ∀ x, b.data.toList.head? = some x → isDg x = false) :
    elsS (D ++ b) = ⟨1, 0, strB (Lib.trimLeftB D.data.toList 48)⟩ :: elsS b := by
  have hsz : (D ++ b).size = D.size + b.size := ByteArray.size_append
  have hd : dgAt (D ++ b) 0 = D.size := by
    unfold dgAt dgN
    rw [List.drop_zero, app_list, List.takeWhile_append_of_pos hD]
    have : b.data.toList.takeWhile isDg = [] := by
      cases h : b.data.toList with
      | nil => rfl
      | cons x t => rw [List.takeWhile_cons, if_neg (by rw [hb x (by rw [h]; rfl)]; decide)]
    rw [this, List.append_nil, str_len]
  have hst : elStep (D ++ b) 0 = ([⟨1, 0, strB (Lib.trimLeftB D.data.toList 48)⟩], D.size) := by
    unfold elStep
    rw [hd, if_pos hpos, trimN_take, List.drop_zero, app_list, List.take_append_of_le_length (by rw [str_len]; exact Nat.le_refl _), List.take_of_length_le (by rw [str_len]; exact Nat.le_refl _), Nat.zero_add]
  unfold elsS
  have h1 := elsGo_shift D b _ 0 [⟨1, 0, strB (Lib.trimLeftB D.data.toList 48)⟩] rfl
  rw [Nat.add_zero] at h1
  rw [elsGo_on (by omega), hst, List.nil_append]
  show elsGo (D ++ b) D.size _ = _
  rw [h1, elsGo_app _ 0 _ rfl]; rfl

/-! ### lists by their first unlike ones -/
theorem lexL_same {α : Type} {f : α → α → Int} (hf : ∀ a, f a a = 0) (e x y : List α) : lexL f (e ++ x) (e ++ y) = lexL f x y := by
  induction e with
  | nil => rfl
  | cons a e ih => rw [List.cons_append, List.cons_append, lexL, if_pos (hf a), ih]
theorem lexL_more {α : Type} {f : α → α → Int} : ∀ {x y u v : List α}, x.length = y.length → lexL f x y ≠ 0 → lexL f (x ++ u) (y ++ v) = lexL f x y
  | [], [], _, _, _, h => absurd rfl h
  | [], _ :: _, _, _, hl, _ => by simp at hl
  | _ :: _, [], _, _, hl, _ => by simp at hl
  | a :: x, b :: y, u, v, hl, h => by
    rw [List.cons_append, List.cons_append, lexL, lexL] 
    rw [lexL] at h
    split
    · rename_i h0
      rw [if_pos h0] at h
      exact lexL_more (by simpa using hl) h
    · rfl

/-! ### decimal digits -/
def decD (n : Nat) : List UInt8 := if n < 10 then [UInt8.ofNat (48 + n)] else decD (n / 10) ++ [UInt8.ofNat (48 + n % 10)]
termination_by n
decreasing_by omega
theorem decD_small {n : Nat} (h : n < 10) : decD n = [UInt8.ofNat (48 + n)] := by rw [decD, if_pos h]
theorem decD_big {n : Nat} (h : ¬ n < 10) : decD n = decD (n / 10) ++ [UInt8.ofNat (48 + n % 10)] := by rw [decD, if_neg h]
theorem dig_val {k : Nat} (h : k < 10) : (UInt8.ofNat (48 + k)).toNat = 48 + k := by
  rw [UInt8.toNat_ofNat']; omega
theorem decD_dg (n : Nat) : ∀ x ∈ decD n, isDg x = true := by
  induction n using Nat.strongRecOn with
  | _ n ih =>
    intro x hx
    by_cases h : n < 10
    · rw [decD_small h] at hx
      obtain rfl := List.mem_singleton.1 hx
      unfold isDg; rw [dig_val h]; simp; omega
    · rw [decD_big h] at hx
      rcases List.mem_append.1 hx with hx | hx
      · exact ih (n / 10) (by omega) x hx
      · obtain rfl := List.mem_singleton.1 hx
        unfold isDg; rw [dig_val (by omega)]; simp; omega
theorem decD_len (n : Nat) : 1 ≤ (decD n).length := by
  by_cases h : n < 10
  · rw [decD_small h]; simp
  · rw [decD_big h]; simp
theorem decD_le (n k : Nat) (h : n < 10 ^ (k + 1)) : (decD n).length ≤ k + 1 := by
  induction k generalizing n with
  | zero => rw [decD_small (by simpa using h)]; simp
  | succ k ih =>
    by_cases h' : n < 10
    · rw [decD_small h']; simp
    · rw [decD_big h', List.length_append]
      have := ih (n / 10) (by rw [Nat.div_lt_iff_lt_mul (by omega)]; rw [Nat.pow_succ] at h; exact h)
      simp; omega
/-- a number's digits, of nought none -/
def digT (n : Nat) : List UInt8 := if n = 0 then [] else decD n
theorem digT_on {n : Nat} (h : 0 < n) : digT n = digT (n / 10) ++ [UInt8.ofNat (48 + n % 10)] := by
  unfold digT
  rw [if_neg (by omega)]
  by_cases h' : n < 10
  · rw [decD_small h', if_pos (by omega), Nat.mod_eq_of_lt h']; rfl
  · rw [decD_big h', if_neg (by omega)]
theorem decD_head {n : Nat} (h : 0 < n) : ∃ x t, decD n = x :: t ∧ (x == 48) = false := by
  induction n using Nat.strongRecOn with
  | _ n ih =>
    by_cases h' : n < 10
    · rw [decD_small h']
      refine ⟨_, [], rfl, ?_⟩
      rw [beq_eq_false_iff_ne]
      intro e
      have := congrArg UInt8.toNat e
      rw [dig_val h'] at this
      simp at this; omega
    · obtain ⟨x, t, e, hx⟩ := ih (n / 10) (by omega) (by omega)
      rw [decD_big h', e]
      exact ⟨x, _, rfl, hx⟩
theorem trim_dec (z n : Nat) : Lib.trimLeftB (List.replicate z 48 ++ decD n) 48 = digT n := by
  unfold Lib.trimLeftB
  rw [List.dropWhile_append_of_pos (by intro x hx; rw [List.eq_of_mem_replicate hx]; rfl)]
  by_cases h : n = 0
  · subst h
    rw [decD_small (by omega)]; rfl
  · obtain ⟨x, t, e, hx⟩ := decD_head (by omega : 0 < n)
    unfold digT
    rw [if_neg h, e, List.dropWhile_cons, if_neg (by rw [hx]; decide)]
theorem digT_lt : ∀ {m n : Nat}, m < n → (digT m).length < (digT n).length ∨ ((digT m).length = (digT n).length ∧ Lib.compareBytes (digT m) (digT n) = -1) := by
  intro m n
  induction n using Nat.strongRecOn generalizing m with
  | _ n ih =>
    intro h
    rw [digT_on (by omega : 0 < n)]
    by_cases h0 : m = 0
    · subst h0
      left; simp [digT]
    · rw [digT_on (by omega : 0 < m)]
      by_cases h1 : m / 10 < n / 10
      · rcases ih (n / 10) (by omega) h1 with k | ⟨k1, k2⟩
        · left; simp; exact k
        · right
          refine ⟨by simp [k1], ?_⟩
          rw [bytes_lex] at k2 ⊢
          rw [lexL_more k1 (by rw [k2]; decide), k2]
      · right
        have e : m / 10 = n / 10 := by omega
        refine ⟨by simp [e], ?_⟩
        rw [e, bytes_lex, lexL_same (f := fun x y : UInt8 => Lib.compareInt x.toNat y.toNat) (fun a => compareInt_zero _)]
        rw [lexL]
        rw [dig_val (by omega), dig_val (by omega)]
        have hc : Lib.compareInt ((48 + m % 10 : Nat) : Int) ((48 + n % 10 : Nat) : Int) = -1 := by unfold Lib.compareInt; rw [if_pos (by omega)]
        rw [hc]; rfl
/-- two numbers' elements -/
theorem cmpEl_num {m n : Nat} (h : m < n) : cmpEl ⟨1, 0, strB (digT m)⟩ ⟨1, 0, strB (digT n)⟩ = -1 := by
  unfold cmpEl
  dsimp only
  rw [if_neg (by rw [compareInt_zero]; decide), if_pos rfl, orL_two, strB_size, strB_size]
  rcases digT_lt h with k | ⟨k1, k2⟩
  · have hc : Lib.compareInt ((digT m).length : Int) ((digT n).length : Int) = -1 := by unfold Lib.compareInt; rw [if_pos (by omega)]
    rw [hc]; rfl
  · rw [k1, compareInt_zero, if_pos rfl]
    exact k2
theorem allC_first {a b : ByteArray} (h : lexL cmpEl (elsS a) (elsS b) ≠ 0) : compareT a b = lexL cmpEl (elsS a) (elsS b) := by
  rw [compareT_eq]
  unfold allC
  show seqC _ _ a b = _
  unfold seqC
  rw [if_neg h]
theorem rep_dg (z n : Nat) : ∀ x ∈ (strB (List.replicate z 48 ++ decD n)).data.toList, isDg x = true := fun x hx => by
  rcases List.mem_append.1 (show x ∈ List.replicate z 48 ++ decD n from hx) with hx | hx
  · rw [List.eq_of_mem_replicate hx]; decide
  · exact decD_dg n x hx
theorem num_els {h t : ByteArray} (z n : Nat) (hh : noDg h.data.toList) (ht : ∀ x, t.data.toList.head? = some x → isDg x = false) :
    elsS (h ++ (strB (List.replicate z 48 ++ decD n) ++ t)) = elsS h ++ ⟨1, 0, strB (digT n)⟩ :: elsS t := by
  have hl := decD_len n
  have hp : 0 < (strB (List.replicate z 48 ++ decD n)).size := by rw [strB_size, List.length_append]; omega
  rw [elsS_app ?_ hh, elsS_num (rep_dg z n) hp ht]
  · rw [show (strB (List.replicate z 48 ++ decD n)).data.toList = List.replicate z 48 ++ decD n from rfl, trim_dec]
  · rw [app_list]
    have hm : ∀ l : List UInt8, l ≠ [] → (∀ x ∈ l, isDg x = true) → ∀ u, leads (l ++ u) := by
      intro l hl hd u
      cases l with
      | nil => exact absurd rfl hl
      | cons x l =>
        have := hd x (by simp)
        unfold isDg at this
        unfold leads
        simp at this ⊢
        omega
    refine hm _ (fun e => ?_) (rep_dg z n) _
    rw [← str_len, e] at hp
    simp at hp
/-- **numbers by their values** -/
theorem num_less {h t : ByteArray} (y z : Nat) {m n : Nat} (hmn : m < n) (hh : noDg h.data.toList) (ht : ∀ x, t.data.toList.head? = some x → isDg x = false) :
    compareT (h ++ (strB (List.replicate y 48 ++ decD m) ++ t)) (h ++ (strB (List.replicate z 48 ++ decD n) ++ t)) = -1 := by
  have hl : lexL cmpEl (elsS (h ++ (strB (List.replicate y 48 ++ decD m) ++ t))) (elsS (h ++ (strB (List.replicate z 48 ++ decD n) ++ t))) = -1 := by
    rw [num_els y m hh ht, num_els z n hh ht, lexL_same cmpEl_cmp.self, lexL, cmpEl_num hmn]; rfl
  rw [allC_first (by rw [hl]; decide), hl]
/-- the last character is no digit, so the last byte is none -/
theorem chN_conts {l : List UInt8} {p k : Nat} (hk : 1 ≤ k) (h : k < chN l p) : (l.getD (p + k) 0).toNat / 64 = 2 := by
  unfold chN at h
  rw [Lib.decodeL_N] at h
  rw [Lib.getD_dropU, Lib.getD_dropU, Lib.getD_dropU, Lib.getD_dropU] at h
  rcases Lib.decodeN_shape (l.drop p).length (l.getD (p + 0) 0).toNat (l.getD (p + 1) 0).toNat (l.getD (p + 2) 0).toNat (l.getD (p + 3) 0).toNat with ⟨c, e⟩ | ⟨c1, c2, c3, cv, e⟩ | ⟨c1, c2, c3, c4, cv, cs, e⟩ | ⟨c1, c2, c3, c4, c5, cv, cw, e⟩ | e
  all_goals (rw [e] at h; dsimp only at h)
  · omega
  · obtain rfl : k = 1 := by omega
    exact c3
  · rcases (by omega : k = 1 ∨ k = 2) with rfl | rfl
    · exact c3
    · exact c4
  · rcases (by omega : k = 1 ∨ k = 2 ∨ k = 3) with rfl | rfl | rfl
    · exact c3
    · exact c4
    · exact c5
  · omega
theorem last_noDg {l : List UInt8} {x : Chr} (hx : (charsAt l 0).getLast? = some x) (h : ¬ (48 ≤ x.r ∧ x.r ≤ 57)) : noDg l := by
  have hne : charsAt l 0 ≠ [] := by intro e; rw [e] at hx; cases hx
  have hlen : 0 < (charsAt l 0).length := List.length_pos_iff.2 hne
  have hget : (charsAt l 0)[(charsAt l 0).length - 1]? = some x := by rw [← List.getLast?_eq_getElem?]; exact hx
  obtain ⟨_, h2, h3, h4⟩ := charsAt_get _ 0 x hget
  rw [List.getElem?_eq_none (by omega)] at h4
  have hend : ¬ x.at' + x.n < l.length := by
    intro k; rw [if_pos k] at h4; cases h4
  have hr : x.r = chR l x.at' := congrArg Chr.r h3
  have hn : x.n = chN l x.at' := congrArg Chr.n h3
  have hle := chN_le h2
  have hpos := chN_pos l x.at'
  intro b hb
  rw [List.getLast?_eq_getElem?] at hb
  have hb' : l.getD (l.length - 1) 0 = b := by rw [List.getD_eq_getElem?_getD, hb]; rfl
  rcases Nat.lt_or_ge 1 (chN l x.at') with k | k
  · have := chN_conts (l := l) (p := x.at') (k := chN l x.at' - 1) (by omega) (by omega)
    rw [show x.at' + (chN l x.at' - 1) = l.length - 1 from by omega, hb'] at this
    unfold isDg
    simp; omega
  · have hdi := digit_iff h2
    rw [show x.at' = l.length - 1 from by omega, hb'] at hdi
    rw [← hdi, show l.length - 1 = x.at' from by omega, ← hr]
    cases hi : inR (x.r : Int) 48 57
    · rfl
    · exact absurd (inR_iff.1 hi) (by omega)
end Go.Proofs.YtjkpmdckpfklgaaDoor
