/- The document's numbers of bits are the program's. No program is walked here. -/
import Derived.Test.YtkgbecgdappjoaaDoorNc
namespace Go.Proofs.YtkgbecgdappjoaaDoor
open Sha
set_option linter.unusedVariables false
set_option linter.unusedSimpArgs false

theorem bF_bit (n k : Nat) : bF n k = (n.testBit k).toNat := by unfold bF; rw [Nat.toNat_testBit]
theorem numTo_bits (f : Nat → Nat) (X : Nat) (hX : X < 2 ^ 32) (hf : ∀ i, i < 32 → f i = (X.testBit i).toNat) : numTo f 32 = X := by
  have h : ∀ k, k ≤ 32 → numTo f k = X / 2 ^ (32 - k) := by
    intro k
    induction k with
    | zero => intro _; exact (Nat.div_eq_of_lt hX).symm
    | succ k ih =>
      intro hk
      rw [numTo, ih (by omega), hf _ (by omega), Nat.toNat_testBit, show 32 - (k + 1) = 31 - k by omega, show 32 - k = (31 - k) + 1 by omega, Nat.pow_succ, ← Nat.div_div_eq_div_mul]
      omega
  rw [h 32 (by omega)]
  show X / 1 = X
  exact Nat.div_one X
theorem high_bit (x z : Nat) (hx : x < 2 ^ 32) (hz : 32 ≤ z) : x.testBit z = false := Nat.testBit_lt_two_pow (Nat.lt_of_lt_of_le hx (Nat.pow_le_pow_right (by omega) hz))
theorem bit_rotr (x n z : Nat) (hx : x < 2 ^ 32) (hn : n ≤ 31) (hz : z < 32) : (rotr x n).testBit z = x.testBit ((z + n) % 32) := by
  unfold rotr
  rw [Nat.testBit_or, Nat.testBit_mod_two_pow, Nat.testBit_mul_two_pow, Nat.testBit_div_two_pow]
  by_cases h : z + n < 32
  · rw [show (z + n) % 32 = z + n by omega]
    simp [show ¬ 32 - n ≤ z by omega]
  · rw [high_bit x (z + n) hx (by omega), show (z + n) % 32 = z - (32 - n) by omega]
    simp [hz, show 32 - n ≤ z by omega]
theorem xor3 (p q r : Bool) : (p.toNat + q.toNat + r.toNat) % 2 = ((p ^^ q) ^^ r).toNat := by cases p <;> cases q <;> cases r <;> rfl
theorem mix_turn (n x y z : Nat) (hn : n < 2 ^ 32) (hx : x ≤ 31) (hy : y ≤ 31) (hz : z ≤ 31) : mixN n x y z false = turnL n [x, y, z] := by
  unfold mixN
  refine numTo_bits _ _ (turnL_lt n hn _) fun i hi => ?_
  unfold mixB
  rw [if_pos (.inl rfl), bF_bit, bF_bit, bF_bit, xor3]
  show _ = ((((0 ^^^ rotr n x) ^^^ rotr n y) ^^^ rotr n z).testBit i).toNat
  rw [Nat.zero_xor, Nat.testBit_xor, Nat.testBit_xor, bit_rotr _ _ _ hn hx hi, bit_rotr _ _ _ hn hy hi, bit_rotr _ _ _ hn hz hi]
theorem mix_shift (n x y z : Nat) (hn : n < 2 ^ 32) (hx : x ≤ 31) (hy : y ≤ 31) (hz : z ≤ 31) : mixN n x y z true = turnL n [x, y] ^^^ n / 2 ^ z := by
  unfold mixN
  refine numTo_bits _ _ (Nat.xor_lt_two_pow (turnL_lt n hn _) (Nat.lt_of_le_of_lt (Nat.div_le_self _ _) hn)) fun i hi => ?_
  unfold mixB
  rw [bF_bit, bF_bit, bF_bit]
  show _ = ((((0 ^^^ rotr n x) ^^^ rotr n y) ^^^ n / 2 ^ z).testBit i).toNat
  rw [Nat.zero_xor, Nat.testBit_xor, Nat.testBit_xor, bit_rotr _ _ _ hn hx hi, bit_rotr _ _ _ hn hy hi, Nat.testBit_div_two_pow, ← xor3]
  congr 2
  by_cases h : i + z < 32
  · rw [if_pos (.inr h), show (i + z) % 32 = i + z by omega]
  · rw [if_neg (fun h2 => h2.elim (fun e => by cases e) h), high_bit n (i + z) hn (by omega)]
    rfl
theorem bit_not (x z : Nat) (hx : x < 2 ^ 32) (hz : z < 32) : (not32 x).testBit z = !x.testBit z := by
  unfold not32
  rw [show 4294967295 - x = 2 ^ 32 - (x + 1) by omega, Nat.testBit_two_pow_sub_succ hx]
  simp [hz]
theorem pick_eq (e f g : Nat) (he : e < 2 ^ 32) (hf : f < 2 ^ 32) (hg : g < 2 ^ 32) : pickN e f g = (e &&& f) ^^^ (not32 e &&& g) := by
  unfold pickN
  refine numTo_bits _ _ (Nat.xor_lt_two_pow (Nat.and_lt_two_pow _ hf) (Nat.and_lt_two_pow _ hg)) fun i hi => ?_
  unfold pickB
  rw [bF_bit, bF_bit, bF_bit, Nat.testBit_xor, Nat.testBit_and, Nat.testBit_and, bit_not _ _ he hi]
  cases e.testBit i <;> cases f.testBit i <;> cases g.testBit i <;> rfl
theorem most_eq (a b c : Nat) (ha : a < 2 ^ 32) (hb : b < 2 ^ 32) (hc : c < 2 ^ 32) : mostN a b c = (a &&& b) ^^^ (a &&& c) ^^^ (b &&& c) := by
  unfold mostN
  refine numTo_bits _ _ (Nat.xor_lt_two_pow (Nat.xor_lt_two_pow (Nat.and_lt_two_pow _ hb) (Nat.and_lt_two_pow _ hc)) (Nat.and_lt_two_pow _ hc)) fun i hi => ?_
  unfold mostB
  rw [bF_bit, bF_bit, bF_bit, Nat.testBit_xor, Nat.testBit_xor, Nat.testBit_and, Nat.testBit_and, Nat.testBit_and]
  cases a.testBit i <;> cases b.testBit i <;> cases c.testBit i <;> rfl

/-! the words of a block -/
def wF (b : List UInt8) : Nat → Nat := wTo b 64
theorem wTo_stay (b : List UInt8) (k m i : Nat) (h : i < k) (hm : k ≤ m) : wTo b m i = wTo b k i := by
  induction m with
  | zero => omega
  | succ m ih =>
    by_cases e : k = m + 1
    · rw [e]
    · show upd _ m _ i = _
      unfold upd
      rw [if_neg (by omega), ih (by omega)]
theorem wF_at (b : List UInt8) (i : Nat) (hi : i < 64) : wF b i = wAt b (wTo b i) i := by
  unfold wF
  rw [wTo_stay b (i + 1) 64 i (by omega) (by omega)]
  show upd _ i _ i = _
  unfold upd
  rw [if_pos rfl]
theorem wF_lt (b : List UInt8) (i : Nat) : wF b i < 2 ^ 32 := wTo_lt _ _ _
theorem wF_next (b : List UInt8) (i : Nat) (h16 : 16 ≤ i) (hi : i < 64) : wF b i = (wF b (i - 16) + wF b (i - 7) + mixN (wF b (i - 15)) 7 18 3 true + mixN (wF b (i - 2)) 17 19 10 true) % 4294967296 := by
  have hs : ∀ j, j < i → wTo b i j = wF b j := fun j hj => (wTo_stay b i 64 j hj (by omega)).symm
  rw [wF_at b i hi, mix_shift _ _ _ _ (wF_lt _ _) (by omega) (by omega) (by omega), mix_shift _ _ _ _ (wF_lt _ _) (by omega) (by omega) (by omega)]
  unfold wAt
  rw [if_neg (by omega), hs _ (by omega), hs _ (by omega), hs _ (by omega), hs _ (by omega)]
  unfold add s0 s1
  omega
/-- The number of four bytes, one behind the other. -/
def hornTo (b : List UInt8) (i : Nat) : Nat → Nat
  | 0 => 0
  | j + 1 => 256 * hornTo b i j + (b.getD (4 * i + j) 0).toNat
theorem hornTo_lt (b : List UInt8) (i j : Nat) : hornTo b i j < 256 ^ j := by
  induction j with
  | zero => exact Nat.one_pos
  | succ j ih =>
    have : (b.getD (4 * i + j) 0).toNat < 256 := UInt8.toNat_lt _
    rw [hornTo, Nat.pow_succ]
    omega
theorem wF_first (b : List UInt8) (hb : b.length = 64) (i : Nat) (hi : i < 16) : wF b i = hornTo b i 4 := by
  rw [wF_at b i (by omega)]
  unfold wAt
  rw [if_pos hi]
  have hl : ((b.drop (4 * i)).take 4) = [b.getD (4 * i) 0, b.getD (4 * i + 1) 0, b.getD (4 * i + 2) 0, b.getD (4 * i + 3) 0] := by
    apply List.ext_getElem
    · simp; omega
    · intro j h1 h2
      simp only [List.length_cons, List.length_nil] at h2
      have hj : j = 0 ∨ j = 1 ∨ j = 2 ∨ j = 3 := by omega
      rcases hj with rfl | rfl | rfl | rfl <;> simp [List.getD, show 4 * i < b.length by omega, show 4 * i + 1 < b.length by omega, show 4 * i + 2 < b.length by omega, show 4 * i + 3 < b.length by omega]
  rw [hl]
  have step : ∀ (n x : Nat), n < 16777216 → x < 256 → (n * 256 % 2 ^ 32) ||| x = 256 * n + x := by
    intro n x hn hx
    rw [Nat.mod_eq_of_lt (by omega), show n * 256 = 2 ^ 8 * n by omega, ← Nat.two_pow_add_eq_or_of_lt (by simpa using hx) n]
  have l0 : (b.getD (4 * i) 0).toNat < 256 := UInt8.toNat_lt _
  have l1 : (b.getD (4 * i + 1) 0).toNat < 256 := UInt8.toNat_lt _
  have l2 : (b.getD (4 * i + 2) 0).toNat < 256 := UInt8.toNat_lt _
  have l3 : (b.getD (4 * i + 3) 0).toNat < 256 := UInt8.toNat_lt _
  unfold num
  simp only [List.foldl_cons, List.foldl_nil, hornTo, Nat.add_zero]
  generalize (b.getD (4 * i) 0).toNat = x0 at *
  generalize (b.getD (4 * i + 1) 0).toNat = x1 at *
  generalize (b.getD (4 * i + 2) 0).toNat = x2 at *
  generalize (b.getD (4 * i + 3) 0).toNat = x3 at *
  rw [step 0 x0 (by omega) l0, step (256 * 0 + x0) x1 (by omega) l1, step _ x2 (by omega) l2, step _ x3 (by omega) l3]

/-! the rounds -/
def vF (b : List UInt8) (h : Nat → Nat) (t : Nat) : Nat → Nat := rndTo cF (wF b) h t
def ttN (c w : Nat) (v : Nat → Nat) : Nat := v 7 + mixN (v 4) 6 11 25 false + pickN (v 4) (v 5) (v 6) + c + w
def uuN (v : Nat → Nat) : Nat := mixN (v 0) 2 13 22 false + mostN (v 0) (v 1) (v 2)
def stepN (c w : Nat) (v : Nat → Nat) (i : Nat) : Nat := if i = 0 then (ttN c w v + uuN v) % 4294967296 else if i = 4 then (v 3 + ttN c w v) % 4294967296 else v (i - 1)
theorem vF_ok (b : List UInt8) (h : Nat → Nat) (hh : Ok 8 h) (t : Nat) : Ok 8 (vF b h t) := rndTo_ok _ _ _ hh t
theorem vF_next (b : List UInt8) (h : Nat → Nat) (hh : Ok 8 h) (t i : Nat) (hi : i < 8) : vF b h (t + 1) i = stepN (cF t) (wF b t) (vF b h t) i := by
  have hv := vF_ok b h hh t
  show rnd (cF t) (wF b t) (vF b h t) i = _
  generalize vF b h t = v at *
  have e1 := mix_turn (v 4) 6 11 25 (hv 4 (by omega)) (by omega) (by omega) (by omega)
  have e2 := mix_turn (v 0) 2 13 22 (hv 0 (by omega)) (by omega) (by omega) (by omega)
  have e3 := pick_eq (v 4) (v 5) (v 6) (hv 4 (by omega)) (hv 5 (by omega)) (hv 6 (by omega))
  have e4 := most_eq (v 0) (v 1) (v 2) (hv 0 (by omega)) (hv 1 (by omega)) (hv 2 (by omega))
  unfold rnd upd stepN ttN uuN shift tt uu add
  rw [e1, e2, e3, e4]
  by_cases h0 : i = 0
  · rw [if_pos h0, if_pos h0]
    omega
  · rw [if_neg h0, if_neg h0]
    by_cases h4 : i = 4
    · subst h4
      have g4 : ∀ a b : Nat, (if (4 : Nat) = 0 then a else b) = b := fun a b => if_neg (by omega)
      rw [if_pos rfl, if_pos rfl]
      repeat rw [g4]
      show (v 3 + _) % _ = _
      omega
    · rw [if_neg h4, if_neg h4, if_neg h0]
theorem mix_eq (b : List UInt8) (h : Nat → Nat) (i : Nat) (hi : i < 8) : mix h b i = (vF b h 64 i + h i) % 4294967296 := by
  unfold mix sumTo add vF wF
  rw [if_pos hi, Nat.add_comm]
end Go.Proofs.YtkgbecgdappjoaaDoor
