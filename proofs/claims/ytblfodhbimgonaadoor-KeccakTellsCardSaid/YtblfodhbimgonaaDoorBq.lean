/- The document's steps on bits are the program's on lanes. No program is walked here. -/
import Derived.Test.YtblfodhbimgonaaDoorBg
namespace Go.Proofs.YtblfodhbimgonaaDoor
set_option linter.unusedVariables false
set_option linter.unusedSimpArgs false

theorem bit_test (a : Nat → Nat) (k : Nat) : bitF a k = ((a (k / 64)).testBit (k % 64)).toNat := by
  unfold bitF
  rw [Nat.toNat_testBit]
theorem toNat_xor (p q : Bool) : (p ^^ q).toNat = (p.toNat + q.toNat) % 2 := by cases p <;> cases q <;> rfl
def IsBits (f a : Nat → Nat) : Prop := ∀ k, k < 1600 → f k = bitF a k

/-! theta -/
theorem colB_bits (f a : Nat → Nat) (h : IsBits f a) (x z : Nat) (hx : x < 5) (hz : z < 64) : colB f (64 * x + z) = ((Kec.col a x).testBit z).toNat := by
  unfold colB
  rw [show (64 * x + z) / 64 = x by omega, show (64 * x + z) % 64 = z by omega]
  have e : ∀ y, y < 5 → f (64 * (5 * y + x) + z) = ((a (x + 5 * y)).testBit z).toNat := by
    intro y hy
    rw [h _ (by omega), bit_test, show (64 * (5 * y + x) + z) / 64 = x + 5 * y by omega, show (64 * (5 * y + x) + z) % 64 = z by omega]
  simp only [sumF]
  rw [e 0 (by omega), e 1 (by omega), e 2 (by omega), e 3 (by omega), e 4 (by omega)]
  unfold Kec.col
  simp only [Nat.testBit_xor, Nat.mul_zero, Nat.add_zero, Nat.mul_one, Nat.reduceMul]
  generalize (a x).testBit z = b0
  generalize (a (x + 5)).testBit z = b1
  generalize (a (x + 10)).testBit z = b2
  generalize (a (x + 15)).testBit z = b3
  generalize (a (x + 20)).testBit z = b4
  cases b0 <;> cases b1 <;> cases b2 <;> cases b3 <;> cases b4 <;> rfl
theorem th_bits (f a : Nat → Nat) (h : IsBits f a) (ha : Kec.Ok a) : IsBits (thB f) (Kec.theta a) := by
  intro k hk
  rw [bit_test, Kec.theta_eq a (k / 64) (by omega)]
  have hz : k % 64 < 64 := by omega
  have hc := Kec.col_lt a ((k / 64 + 1) % 5) ha (by omega)
  unfold thB
  rw [h k hk, bit_test, show (k / 64 % 5 + 4) % 5 = (k / 64 + 4) % 5 by omega, show (k / 64 % 5 + 1) % 5 = (k / 64 + 1) % 5 by omega]
  rw [colB_bits f a h _ _ (by omega) hz, colB_bits f a h _ _ (by omega) (by omega)]
  rw [Nat.testBit_xor, Nat.testBit_xor, Kec.testBit_rotl _ 1 _ hc (by omega) hz, show k % 64 + 64 - 1 = k % 64 + 63 by omega]
  generalize (a (k / 64)).testBit (k % 64) = b0
  generalize (Kec.col a ((k / 64 + 4) % 5)).testBit (k % 64) = b1
  generalize (Kec.col a ((k / 64 + 1) % 5)).testBit ((k % 64 + 63) % 64) = b2
  cases b0 <;> cases b1 <;> cases b2 <;> rfl

/-! rho and pi -/
def laneT (t : Nat) : Nat := 5 * (Kec.xy t).2 + (Kec.xy t).1
theorem laneT_inj : ∀ t, t < 24 → ∀ u, u < 24 → laneT t = laneT u → t = u := by decide +kernel
theorem laneT_pos : ∀ t, t < 24 → laneT t ≠ 0 := by decide +kernel
def whence (i : Nat) : Nat := 5 * (i % 5) + (i % 5 + 3 * (i / 5)) % 5
theorem src_lane : ∀ i, i < 25 → i ≠ 0 → ∃ t, t < 24 ∧ laneT t = whence i ∧ Kec.src.getD i (0, 0) = (whence i, rotR t) := by decide +kernel
theorem rhoTo_zero (f : Nat → Nat) (k : Nat) (hk : k / 64 = 0) : ∀ n, n ≤ 24 → rhoTo f n k = f k := by
  intro n
  induction n with
  | zero => intro _; rfl
  | succ n ih =>
    intro hn
    show rhoZ f (rhoTo f n) (laneT n) (rotR n) 64 k = f k
    unfold rhoZ
    rw [if_neg (fun h => laneT_pos n (by omega) (by rw [← h.1, hk]))]
    exact ih (by omega)
theorem rhoTo_at (f : Nat → Nat) (k t : Nat) (hk : k / 64 = laneT t) : ∀ n, n ≤ 24 → t < n → rhoTo f n k = f (64 * laneT t + (k % 64 + 64 - rotR t) % 64) := by
  intro n
  induction n with
  | zero => intro _ h; omega
  | succ n ih =>
    intro hn ht
    show rhoZ f (rhoTo f n) (laneT n) (rotR n) 64 k = _
    unfold rhoZ
    by_cases h : t = n
    · subst h
      rw [if_pos ⟨hk, by omega⟩]
    · rw [if_neg (fun h2 => h (laneT_inj t (by omega) n (by omega) (by rw [← hk, h2.1])))]
      exact ih (by omega) (by omega)
theorem turn_bits (f a : Nat → Nat) (h : IsBits f a) (ha : Kec.Ok a) : IsBits (piB (rhoB f)) (Kec.turn a) := by
  intro k hk
  have hz : k % 64 < 64 := by omega
  rw [bit_test, Kec.turn_eq a (k / 64) (by omega) (ha 0 (by omega))]
  have hok := Kec.src_ok (k / 64) (by omega)
  rw [Kec.testBit_rotl _ _ _ (ha _ hok.1) hok.2 hz]
  unfold piB rhoB
  have hw : 64 * (5 * (k / 64 % 5) + (k / 64 % 5 + 3 * (k / 320)) % 5) + k % 64 = 64 * whence (k / 64) + k % 64 := by
    unfold whence
    rw [show k / 64 / 5 = k / 320 by omega]
  rw [hw]
  have hwl : whence (k / 64) < 25 := by unfold whence; omega
  by_cases h0 : k / 64 = 0
  · rw [h0]
    have hw0 : whence 0 = 0 := by decide
    have hs0 : Kec.src.getD 0 (0, 0) = (0, 0) := rfl
    rw [hw0, hs0, rhoTo_zero f _ (by omega) 24 (by omega), h _ (by omega), bit_test]
    rw [show (64 * 0 + k % 64) / 64 = 0 by omega, show (64 * 0 + k % 64) % 64 = k % 64 by omega, show (k % 64 + 64 - 0) % 64 = k % 64 by omega]
  · obtain ⟨t, ht, hl, hs⟩ := src_lane (k / 64) (by omega) h0
    rw [hs]
    rw [hs] at hok
    generalize whence (k / 64) = l at *
    have hr : rotR t < 64 := hok.2
    rw [rhoTo_at f _ t (by omega) 24 (by omega) ht, hl, show (64 * l + k % 64) % 64 = k % 64 by omega]
    generalize rotR t = r at *
    rw [h _ (by omega), bit_test]
    rw [show (64 * l + (k % 64 + 64 - r) % 64) / 64 = l by omega, show (64 * l + (k % 64 + 64 - r) % 64) % 64 = (k % 64 + 64 - r) % 64 by omega]

/-! chi -/
theorem chi_bits (f a : Nat → Nat) (h : IsBits f a) (ha : Kec.Ok a) : IsBits (chiB f) (Kec.chi a) := by
  intro k hk
  have hz : k % 64 < 64 := by omega
  rw [bit_test, Kec.chi_eq a (k / 64) (by omega)]
  unfold Kec.chiAt
  rw [Nat.testBit_xor, Kec.testBit_andn _ _ _ (ha _ (Kec.lane_lt _ _)) hz]
  unfold chiB
  have e : ∀ d, d < 3 → f (64 * (5 * (k / 320) + (k / 64 % 5 + d) % 5) + k % 64) = ((a (Kec.lane (k / 64 % 5 + d) (k / 64 / 5))).testBit (k % 64)).toNat := by
    intro d hd
    rw [h _ (by omega), bit_test]
    unfold Kec.lane
    rw [show (64 * (5 * (k / 320) + (k / 64 % 5 + d) % 5) + k % 64) / 64 = 5 * (k / 64 / 5 % 5) + (k / 64 % 5 + d) % 5 by omega, show (64 * (5 * (k / 320) + (k / 64 % 5 + d) % 5) + k % 64) % 64 = k % 64 by omega]
  rw [e 1 (by omega), e 2 (by omega), h k hk, bit_test]
  generalize (a (k / 64)).testBit (k % 64) = b0
  generalize (a (Kec.lane (k / 64 % 5 + 1) (k / 64 / 5))).testBit (k % 64) = b1
  generalize (a (Kec.lane (k / 64 % 5 + 2) (k / 64 / 5))).testBit (k % 64) = b2
  cases b0 <;> cases b1 <;> cases b2 <;> rfl

/-! the register, and what is added to the first lane -/
def rcT : List Nat := [1, 2, 4, 8, 16, 32, 64, 128, 113, 226, 181, 27, 54, 108, 216, 193, 243, 151, 95, 190, 13, 26, 52, 104, 208, 209, 211, 215, 223, 207, 239, 175, 47, 94, 188, 9, 18, 36, 72, 144, 81, 162, 53, 106, 212, 217, 195, 247, 159, 79, 158, 77, 154, 69, 138, 101, 202, 229, 187, 7, 14, 28, 56, 112, 224, 177, 19, 38, 76, 152, 65, 130, 117, 234, 165, 59, 118, 236, 169, 35, 70, 140, 105, 210, 213, 219, 199, 255, 143, 111, 222, 205, 235, 167, 63, 126, 252, 137, 99, 198, 253, 139, 103, 206, 237, 171, 39, 78, 156, 73, 146, 85, 170, 37, 74, 148, 89, 178, 21, 42, 84, 168, 33, 66, 132, 121, 242, 149, 91, 182, 29, 58, 116, 232, 161, 51, 102, 204, 233, 163, 55, 110, 220, 201, 227, 183, 31, 62, 124, 248, 129, 115, 230, 189, 11, 22, 44, 88, 176, 17, 34, 68, 136, 97, 194, 245, 155, 71, 142]
def tb (s i : Nat) : Nat := s / 2 ^ i % 2
def tStep (s i : Nat) : Nat := if i = 0 then tb s 7 else if i = 4 then (tb s 3 + tb s 7) % 2 else if i = 5 then (tb s 4 + tb s 7) % 2 else if i = 6 then (tb s 5 + tb s 7) % 2 else tb s (i - 1)
theorem rcT_step : ∀ t, t < 168 → ∀ i, i < 8 → tb (rcT.getD (t + 1) 0) i = tStep (rcT.getD t 0) i := by decide +kernel
theorem rcT_start : ∀ i, i < 8 → tb (rcT.getD 0 0) i = rcR 0 i := by decide
theorem tb_lt (s i : Nat) : tb s i < 2 := Nat.mod_lt _ (by omega)
theorem rcStep_tb (r : Nat → Nat) (s : Nat) (h : ∀ i, i < 8 → r i = tb s i) (i : Nat) (hi : i < 8) : rcStep r i = tStep s i := by
  have e0 : rcN0 r 0 = 0 := rfl
  have e1 : ∀ j, j < 8 → rcN0 r (j + 1) = tb s j := fun j hj => by
    unfold rcN0 joinF
    rw [if_neg (by omega), Nat.add_sub_cancel, h j hj]
  have h7 := tb_lt s 7
  unfold rcStep tStep
  have hc : i = 0 ∨ i = 1 ∨ i = 2 ∨ i = 3 ∨ i = 4 ∨ i = 5 ∨ i = 6 ∨ i = 7 := by omega
  have f1 := e1 0 (by omega)
  have f2 := e1 1 (by omega)
  have f3 := e1 2 (by omega)
  have f4 := e1 3 (by omega)
  have f5 := e1 4 (by omega)
  have f6 := e1 5 (by omega)
  have f7 := e1 6 (by omega)
  have f8 := e1 7 (by omega)
  simp only [Nat.reduceAdd] at f1 f2 f3 f4 f5 f6 f7 f8
  rcases hc with rfl | rfl | rfl | rfl | rfl | rfl | rfl | rfl <;> simp [rcPut, Kec.upd, e0, f1, f2, f3, f4, f5, f6, f7, f8] <;> omega
theorem rcR_tb (t : Nat) (ht : t ≤ 168) : ∀ i, i < 8 → rcR t i = tb (rcT.getD t 0) i := by
  induction t with
  | zero => intro i hi; exact (rcT_start i hi).symm
  | succ t ih =>
    intro i hi
    rw [rcT_step t (by omega) i hi]
    exact rcStep_tb _ _ (ih (by omega)) i hi
def ic (i : Nat) : Nat → Nat → Nat
  | 0 => fun _ => 0
  | j + 1 => fun k => if k = 2 ^ j - 1 then tb (rcT.getD (j + 7 * i) 0) 0 else ic i j k
theorem ic_consts : ∀ i, i < 24 → ∀ z, z < 64 → ic i 7 z = Kec.consts.getD i 0 / 2 ^ z % 2 := by decide +kernel
theorem ic_high (i k : Nat) (hk : 64 ≤ k) : ∀ n, n ≤ 7 → ic i n k = 0 := by
  intro n
  induction n with
  | zero => intro _; rfl
  | succ n ih =>
    intro hn
    have : 2 ^ n ≤ 2 ^ 6 := Nat.pow_le_pow_right (by omega) (by omega)
    show (if k = 2 ^ n - 1 then _ else ic i n k) = 0
    rw [if_neg (by omega)]
    exact ih (by omega)
theorem ic_self (i j : Nat) : ∀ n, n ≤ j → ic i n (2 ^ j - 1) = 0 := by
  intro n
  induction n with
  | zero => intro _; rfl
  | succ n ih =>
    intro hn
    have h1 : 2 ^ n < 2 ^ j := Nat.pow_lt_pow_right (by omega) (by omega)
    have h2 : 1 ≤ 2 ^ n := Nat.one_le_two_pow
    show (if 2 ^ j - 1 = 2 ^ n - 1 then _ else ic i n (2 ^ j - 1)) = 0
    rw [if_neg (by omega)]
    exact ih (by omega)
theorem iota_eq (f : Nat → Nat) (i : Nat) (hi : i < 24) (hf : Two f) : ∀ n, n ≤ 7 → ∀ k, k < 1600 → iotaTo f i n k = (f k + ic i n k) % 2 := by
  intro n
  induction n with
  | zero =>
    intro _ k hk
    have := hf k hk
    show f k = (f k + 0) % 2
    omega
  | succ n ih =>
    intro hn k hk
    have hp : 2 ^ n ≤ 2 ^ 6 := Nat.pow_le_pow_right (by omega) (by omega)
    show Kec.upd (iotaTo f i n) (2 ^ n - 1) ((iotaTo f i n (2 ^ n - 1) + rcO (n + 7 * i)) % 2) k = (f k + (if k = 2 ^ n - 1 then tb (rcT.getD (n + 7 * i) 0) 0 else ic i n k)) % 2
    have hr : rcO (n + 7 * i) = tb (rcT.getD (n + 7 * i) 0) 0 := rcR_tb _ (by omega) 0 (by omega)
    by_cases h : k = 2 ^ n - 1
    · rw [if_pos h, h, Kec.upd_same, ih (by omega) _ (by omega), ic_self i n n (by omega), hr]
      omega
    · rw [if_neg h, Kec.upd_other _ _ _ _ h]
      exact ih (by omega) k hk

/-! a round, all rounds -/
theorem rnd_bits (f a : Nat → Nat) (h : IsBits f a) (ha : Kec.Ok a) (i : Nat) (hi : i < 24) : IsBits (rndB f i) (Kec.rnd a (Kec.consts.getD i 0)) := by
  have hc := chi_bits _ _ (turn_bits _ _ (th_bits f a h ha) (Kec.theta_ok a ha)) (Kec.turn_ok _ (Kec.theta_ok a ha))
  intro k hk
  unfold rndB
  rw [iota_eq _ i hi (two_chi _) 7 (by omega) k hk, hc k hk, bit_test, bit_test]
  unfold Kec.rnd Kec.upd
  by_cases h0 : k / 64 = 0
  · rw [if_pos h0, h0, ic_consts i hi k (by omega), Nat.testBit_xor, toNat_xor, show k % 64 = k by omega, ← Nat.toNat_testBit]
  · rw [if_neg h0, ic_high i k (by omega) 7 (by omega)]
    cases ((Kec.chi (Kec.turn (Kec.theta a))) (k / 64)).testBit (k % 64) <;> rfl
theorem perm_bits (a : Nat → Nat) (ha : Kec.Ok a) : ∀ n, n ≤ 24 → IsBits (permTo (bitF a) n) ((Kec.consts.take n).foldl Kec.rnd a) ∧ Kec.Ok ((Kec.consts.take n).foldl Kec.rnd a) := by
  intro n
  induction n with
  | zero => intro _; exact ⟨fun k _ => rfl, ha⟩
  | succ n ih =>
    intro hn
    obtain ⟨h1, h2⟩ := ih (by omega)
    have hl : Kec.consts.length = 24 := rfl
    have hg : Kec.consts[n]? = some (Kec.consts.getD n 0) := by simp [List.getD, show n < Kec.consts.length by omega]
    rw [List.take_add_one, hg, Option.toList_some, List.foldl_append]
    refine ⟨rnd_bits _ _ h1 h2 n (by omega), Kec.rnd_ok _ _ h2 ?_⟩
    exact Kec.consts_lt _ (List.mem_of_getElem? hg)
theorem hiTo_bits (f a : Nat → Nat) (h : IsBits f a) (ha : Kec.Ok a) (i : Nat) (hi : i < 25) : ∀ k, k ≤ 64 → hiTo f i k = a i / 2 ^ (64 - k) := by
  intro k
  induction k with
  | zero =>
    intro _
    show 0 = a i / 2 ^ 64
    exact (Nat.div_eq_of_lt (ha i hi)).symm
  | succ k ih =>
    intro hk
    show 2 * hiTo f i k + f (64 * i + (63 - k)) = _
    rw [ih (by omega), h _ (by omega)]
    unfold bitF
    rw [show (64 * i + (63 - k)) / 64 = i by omega, show (64 * i + (63 - k)) % 64 = 63 - k by omega, show 64 - (k + 1) = 63 - k by omega, show 64 - k = (63 - k) + 1 by omega, Nat.pow_succ, ← Nat.div_div_eq_div_mul]
    omega
theorem permB_eq (a : Nat → Nat) (ha : Kec.Ok a) (i : Nat) (hi : i < 25) : permB a i = Kec.perm a i := by
  obtain ⟨h1, h2⟩ := perm_bits a ha 24 (by omega)
  have ht : Kec.consts.take 24 = Kec.consts := rfl
  rw [ht] at h1 h2
  show hiTo _ i 64 = _
  rw [hiTo_bits _ _ h1 h2 i hi 64 (by omega)]
  show _ / 1 = _
  rw [Nat.div_one]
  rfl
end Go.Proofs.YtblfodhbimgonaaDoor
