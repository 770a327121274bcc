/-
  PLAIN LAWS OF THE SUM (CRC-32), over no program: it is linear; a burst of four bytes shows.
-/
import Derived.Laws.BitsLemmas
namespace Go.Proofs.YtaclkoipobgmkaaDoor

theorem xor_u32 (a b : Nat) (ha : a < 4294967296) (hb : b < 4294967296) : bits .xor .u32 (a : Int) (b : Int) = ((a ^^^ b : Nat) : Int) := by
  have h : a ^^^ b < 2 ^ 32 := Nat.xor_lt_two_pow ha hb
  have e : (BitVec.ofNat 32 a ^^^ BitVec.ofNat 32 b).toNat = a ^^^ b := by
    rw [BitVec.toNat_xor, BitVec.toNat_ofNat, BitVec.toNat_ofNat, Nat.mod_eq_of_lt (show a < 2 ^ 32 from ha), Nat.mod_eq_of_lt (show b < 2 ^ 32 from hb)]
  have e' : bits .xor .u32 (a : Int) (b : Int) = IntKind.u32.wrap (((BitVec.ofNat 32 a ^^^ BitVec.ofNat 32 b).toNat : Nat) : Int) := by
    simp only [bits, BitVec.ofInt_natCast]; rfl
  rw [e', e, IntKind.wrap_u32]
  omega
/-- one bit's step -/
def cb (r : Nat) : Nat := if r % 2 = 1 then (r / 2) ^^^ 3988292384 else r / 2
def cbs : Nat → Nat → Nat
  | 0, r => r
  | n + 1, r => cbs n (cb r)
theorem cbs_snoc : ∀ (n r : Nat), cbs (n + 1) r = cb (cbs n r)
  | 0, _ => rfl
  | n + 1, r => by rw [cbs, cbs_snoc n (cb r)]; rfl
theorem cbs_add : ∀ (m n r : Nat), cbs (m + n) r = cbs n (cbs m r)
  | 0, n, r => by rw [Nat.zero_add]; rfl
  | m + 1, n, r => by rw [show m + 1 + n = m + n + 1 from by omega, cbs, cbs_add m n (cb r)]; rfl
/-- one byte's step -/
def cby (r x : Nat) : Nat := cbs 8 (r ^^^ x)
def crcS (r : Nat) (l : List Nat) : Nat := l.foldl cby r
def crcN (l : List Nat) : Nat := 4294967295 ^^^ crcS 4294967295 l

theorem cb_lt {r : Nat} (h : r < 4294967296) : cb r < 4294967296 := by
  unfold cb
  split
  · exact Nat.xor_lt_two_pow (n := 32) (by omega) (by decide)
  · omega
theorem cbs_lt : ∀ (n : Nat) {r : Nat}, r < 4294967296 → cbs n r < 4294967296
  | 0, _, h => h
  | n + 1, _, h => cbs_lt n (cb_lt h)
theorem cby_lt {r x : Nat} (h : r < 4294967296) (hx : x < 4294967296) : cby r x < 4294967296 := cbs_lt 8 (Nat.xor_lt_two_pow (n := 32) h hx)
theorem crcS_lt : ∀ (l : List Nat) {r : Nat}, r < 4294967296 → (∀ x ∈ l, x < 256) → crcS r l < 4294967296
  | [], _, h, _ => h
  | x :: l, _, h, hl => crcS_lt l (cby_lt h (by have := hl x (by simp); omega)) (fun y hy => hl y (by simp [hy]))
/-- the step is linear -/
theorem cb_xor (a b : Nat) : cb (a ^^^ b) = cb a ^^^ cb b := by
  have hd : (a ^^^ b) / 2 = a / 2 ^^^ b / 2 := by
    have := @Nat.xor_div_two_pow a b 1
    simpa using this
  unfold cb
  rw [hd]
  rcases Nat.mod_two_eq_zero_or_one a with ha | ha <;> rcases Nat.mod_two_eq_zero_or_one b with hb | hb
  · rw [if_neg (by rw [Nat.xor_mod_two_eq_one]; omega), if_neg (by omega), if_neg (by omega)]
  · rw [if_pos (by rw [Nat.xor_mod_two_eq_one]; omega), if_neg (by omega), if_pos hb, Nat.xor_assoc]
  · rw [if_pos (by rw [Nat.xor_mod_two_eq_one]; omega), if_pos ha, if_neg (by omega), Nat.xor_assoc, Nat.xor_comm (b / 2), Nat.xor_assoc]
  · rw [if_neg (by rw [Nat.xor_mod_two_eq_one]; omega), if_pos ha, if_pos hb]
    rw [Nat.xor_assoc, Nat.xor_comm 3988292384, Nat.xor_assoc, Nat.xor_self, Nat.xor_zero]
theorem cbs_xor : ∀ (n a b : Nat), cbs n (a ^^^ b) = cbs n a ^^^ cbs n b
  | 0, _, _ => rfl
  | n + 1, a, b => by rw [cbs, cb_xor, cbs_xor n]; rfl
theorem cb_zero : cb 0 = 0 := by decide
theorem cbs_zero : ∀ n, cbs n 0 = 0
  | 0 => rfl
  | n + 1 => by rw [cbs, cb_zero, cbs_zero n]
/-- the step loses nothing -/
theorem cb_eq_zero {r : Nat} (h : r < 4294967296) (e : cb r = 0) : r = 0 := by
  unfold cb at e
  split at e
  · have e' : r / 2 = 3988292384 := by
      have : r / 2 = (r / 2 ^^^ 3988292384) ^^^ 3988292384 := by rw [Nat.xor_assoc, Nat.xor_self, Nat.xor_zero]
      rw [this, e, Nat.zero_xor]
    omega
  · omega
theorem cbs_eq_zero : ∀ (n : Nat) {r : Nat}, r < 4294967296 → cbs n r = 0 → r = 0
  | 0, _, _, e => e
  | n + 1, _, h, e => cb_eq_zero h (cbs_eq_zero n (cb_lt h) e)
/-- differences go their own way -/
theorem cby_xor (r s x y : Nat) : cby (r ^^^ s) (x ^^^ y) = cby r x ^^^ cby s y := by
  unfold cby
  rw [← cbs_xor]
  congr 1
  rw [Nat.xor_assoc, ← Nat.xor_assoc s, Nat.xor_comm s, Nat.xor_assoc, ← Nat.xor_assoc]
theorem crcS_xor : ∀ (a b : List Nat) (r s : Nat), a.length = b.length → crcS (r ^^^ s) (List.zipWith (· ^^^ ·) a b) = crcS r a ^^^ crcS s b
  | [], [], _, _, _ => rfl
  | x :: a, y :: b, r, s, h => by
    show crcS (cby (r ^^^ s) (x ^^^ y)) _ = crcS (cby r x) a ^^^ crcS (cby s y) b
    rw [cby_xor]
    exact crcS_xor a b _ _ (by simpa using h)
  | [], y :: b, _, _, h => by simp at h
  | x :: a, [], _, _, h => by simp at h
/-! ### a burst of four bytes -/
theorem cb_double (x : Nat) : cb (x * 2) = x := by
  unfold cb
  rw [if_neg (by omega)]; omega
theorem cbs_shift : ∀ (n x : Nat), cbs n (x * 2 ^ n) = x
  | 0, x => by simp [cbs]
  | n + 1, x => by rw [cbs, show x * 2 ^ (n + 1) = (x * 2 ^ n) * 2 from by rw [Nat.pow_succ, Nat.mul_assoc], cb_double, cbs_shift n x]
theorem cby_cbs (n W x : Nat) : cby (cbs n W) x = cbs (n + 8) (W ^^^ x * 2 ^ n) := by
  rw [cbs_add, cbs_xor n, cbs_shift]; rfl
theorem burst_word (a b c d : Nat) : crcS 0 [a, b, c, d] = cbs 32 (a ^^^ b * 256 ^^^ c * 65536 ^^^ d * 16777216) := by
  have h0 : cby 0 a = cbs 8 a := by unfold cby; rw [Nat.zero_xor]
  show cby (cby (cby (cby 0 a) b) c) d = _
  rw [h0, cby_cbs 8 a b, cby_cbs 16 _ c, cby_cbs 24 _ d]
theorem burst_zero {a b c d : Nat} (ha : a < 256) (hb : b < 256) (hc : c < 256) (hd : d < 256) (h : crcS 0 [a, b, c, d] = 0) : a = 0 ∧ b = 0 ∧ c = 0 ∧ d = 0 := by
  rw [burst_word] at h
  have hlt : a ^^^ b * 256 ^^^ c * 65536 ^^^ d * 16777216 < 4294967296 :=
    Nat.xor_lt_two_pow (n := 32) (Nat.xor_lt_two_pow (n := 32) (Nat.xor_lt_two_pow (n := 32) (by omega) (by omega)) (by omega)) (by omega)
  have hw := cbs_eq_zero 32 hlt h
  have m1 := congrArg (· % 2 ^ 8) hw
  simp only [Nat.xor_mod_two_pow] at m1
  rw [show b * 256 % 2 ^ 8 = 0 by omega, show c * 65536 % 2 ^ 8 = 0 by omega, show d * 16777216 % 2 ^ 8 = 0 by omega, Nat.xor_zero, Nat.xor_zero, Nat.xor_zero] at m1
  have e0 : a = 0 := by omega
  subst e0
  rw [Nat.zero_xor] at hw
  have m2 := congrArg (· % 2 ^ 16) hw
  simp only [Nat.xor_mod_two_pow] at m2
  rw [show c * 65536 % 2 ^ 16 = 0 by omega, show d * 16777216 % 2 ^ 16 = 0 by omega, Nat.xor_zero, Nat.xor_zero] at m2
  have e1 : b = 0 := by omega
  subst e1
  rw [Nat.zero_mul, Nat.zero_xor] at hw
  have m3 := congrArg (· % 2 ^ 24) hw
  simp only [Nat.xor_mod_two_pow] at m3
  rw [show d * 16777216 % 2 ^ 24 = 0 from Nat.mul_mod_left d 16777216, Nat.xor_zero, Nat.zero_mod, Nat.mod_eq_of_lt (by omega)] at m3
  have e2 : c = 0 := by omega
  subst e2
  rw [Nat.zero_mul, Nat.zero_xor] at hw
  exact ⟨rfl, rfl, rfl, (Nat.mul_eq_zero.1 hw).resolve_right (by decide)⟩
theorem crcS_app (a b : List Nat) (r : Nat) : crcS r (a ++ b) = crcS (crcS r a) b := List.foldl_append
theorem crcS_zeros : ∀ (n : Nat), crcS 0 (List.replicate n 0) = 0
  | 0 => rfl
  | n + 1 => by
    show crcS (cby 0 0) (List.replicate n 0) = 0
    rw [show cby 0 0 = 0 from cbs_zero 8, crcS_zeros n]
theorem crcS_zeros_eq : ∀ (n : Nat) {r : Nat}, r < 4294967296 → crcS r (List.replicate n 0) = 0 → r = 0
  | 0, _, _, h => h
  | n + 1, r, hr, h => by
    have h' : crcS (cby r 0) (List.replicate n 0) = 0 := h
    have := crcS_zeros_eq n (cby_lt hr (by omega)) h'
    unfold cby at this
    rw [Nat.xor_zero] at this
    exact cbs_eq_zero 8 hr this
/-- the burst: differences d all within four bytes side by side -/
theorem burst (m n : Nat) {a b c d : Nat} (ha : a < 256) (hb : b < 256) (hc : c < 256) (hd : d < 256) (h : crcS 0 (List.replicate m 0 ++ [a, b, c, d] ++ List.replicate n 0) = 0) : a = 0 ∧ b = 0 ∧ c = 0 ∧ d = 0 := by
  rw [crcS_app, crcS_app, crcS_zeros] at h
  have hl : crcS 0 [a, b, c, d] < 4294967296 := crcS_lt _ (by omega) (fun x hx => by
    simp only [List.mem_cons, List.not_mem_nil, or_false] at hx
    rcases hx with rfl | rfl | rfl | rfl <;> assumption)
  exact burst_zero ha hb hc hd (crcS_zeros_eq n hl h)
theorem crcN_same {a b : List Nat} (hl : a.length = b.length) (h : crcN a = crcN b) : crcS 0 (List.zipWith (· ^^^ ·) a b) = 0 := by
  have h' : crcS 4294967295 a = crcS 4294967295 b := by
    unfold crcN at h
    have := congrArg (4294967295 ^^^ ·) h
    simpa [← Nat.xor_assoc, Nat.xor_self, Nat.zero_xor] using this
  have := crcS_xor a b 4294967295 4294967295 hl
  rw [Nat.xor_self] at this
  rw [this, h', Nat.xor_self]
/-- three lists' sums -/
theorem crcN_three {a b c : List Nat} (h1 : a.length = b.length) (h2 : a.length = c.length) : crcN (List.zipWith (· ^^^ ·) (List.zipWith (· ^^^ ·) a b) c) = crcN a ^^^ crcN b ^^^ crcN c := by
  have e1 := crcS_xor a b 4294967295 4294967295 h1
  have e2 := crcS_xor (List.zipWith (· ^^^ ·) a b) c (4294967295 ^^^ 4294967295) 4294967295 (by simp; omega)
  rw [e1] at e2
  unfold crcN
  rw [show (4294967295 ^^^ 4294967295 ^^^ 4294967295 : Nat) = 4294967295 by decide] at e2
  rw [e2]
  generalize crcS 4294967295 a = x
  generalize crcS 4294967295 b = y
  generalize crcS 4294967295 c = z
  rw [show (4294967295 ^^^ x) ^^^ (4294967295 ^^^ y) = x ^^^ y by rw [Nat.xor_comm 4294967295 x, Nat.xor_assoc, ← Nat.xor_assoc 4294967295, Nat.xor_self, Nat.zero_xor]]
  rw [← Nat.xor_assoc, ← Nat.xor_assoc, Nat.xor_comm 4294967295, Nat.xor_assoc x, Nat.xor_comm 4294967295 y, ← Nat.xor_assoc x, Nat.xor_assoc]
end Go.Proofs.YtaclkoipobgmkaaDoor
