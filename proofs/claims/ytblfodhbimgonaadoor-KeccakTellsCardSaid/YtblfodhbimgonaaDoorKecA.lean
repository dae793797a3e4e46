/- Plain laws on the lanes of Keccak: the round's steps as functions on numbers, bit by bit. No program in sight. -/
namespace Go.Proofs.YtblfodhbimgonaaDoor
namespace Kec

/-- A function turned at one place. -/
def upd (f : Nat → Nat) (i v : Nat) : Nat → Nat := fun j => if j = i then v else f j
theorem upd_same (f : Nat → Nat) (i v : Nat) : upd f i v i = v := by simp [upd]
theorem upd_other (f : Nat → Nat) (i v j : Nat) (h : j ≠ i) : upd f i v j = f j := by simp [upd, h]

def rotl (x r : Nat) : Nat := (x * 2 ^ r % 2 ^ 64) ||| (x / 2 ^ (64 - r))

theorem rotl_lt (x r : Nat) (hx : x < 2 ^ 64) : rotl x r < 2 ^ 64 := by
  unfold rotl
  exact Nat.or_lt_two_pow (Nat.mod_lt _ (by decide)) (Nat.lt_of_le_of_lt (Nat.div_le_self _ _) hx)

theorem testBit_ge (x z : Nat) (hx : x < 2 ^ 64) (hz : 64 ≤ z) : x.testBit z = false :=
  Nat.testBit_lt_two_pow (Nat.lt_of_lt_of_le hx (Nat.pow_le_pow_right (by decide) hz))

theorem testBit_rotl (x r z : Nat) (hx : x < 2 ^ 64) (hr : r < 64) (hz : z < 64) :
    (rotl x r).testBit z = x.testBit ((z + 64 - r) % 64) := by
  unfold rotl
  rw [Nat.testBit_or, Nat.testBit_mod_two_pow, Nat.testBit_mul_two_pow, Nat.testBit_div_two_pow]
  by_cases h : r ≤ z
  · rw [testBit_ge x (z + (64 - r)) hx (by omega), show (z + 64 - r) % 64 = z - r from by omega]
    simp [h, hz]
  · rw [show (z + 64 - r) % 64 = z + (64 - r) from by omega]
    simp [h]

def andn (x y : Nat) : Nat := x &&& (18446744073709551615 - y)
theorem andn_lt (x y : Nat) (hx : x < 2 ^ 64) : andn x y < 2 ^ 64 := Nat.lt_of_le_of_lt Nat.and_le_left hx
theorem testBit_andn (x y z : Nat) (hy : y < 2 ^ 64) (hz : z < 64) : (andn x y).testBit z = (x.testBit z && !y.testBit z) := by
  unfold andn
  rw [Nat.testBit_and, show 18446744073709551615 - y = 2 ^ 64 - (y + 1) from by omega, Nat.testBit_two_pow_sub_succ hy]
  simp [hz]

theorem eq_of_bits {x y : Nat} (hx : x < 2 ^ 64) (hy : y < 2 ^ 64) (h : ∀ z, z < 64 → x.testBit z = y.testBit z) : x = y := by
  apply Nat.eq_of_testBit_eq
  intro z
  by_cases hz : z < 64
  · exact h z hz
  · rw [testBit_ge x z hx (by omega), testBit_ge y z hy (by omega)]

def lane (x y : Nat) : Nat := 5 * (y % 5) + x % 5

def Ok (a : Nat → Nat) : Prop := ∀ i, i < 25 → a i < 2 ^ 64

/-! theta -/
def colTo (a : Nat → Nat) : Nat → Nat → Nat
  | 0 => fun _ => 0
  | k + 1 => upd (colTo a k) (k % 5) (colTo a k (k % 5) ^^^ a k)
def col (a : Nat → Nat) (x : Nat) : Nat := a x ^^^ a (x + 5) ^^^ a (x + 10) ^^^ a (x + 15) ^^^ a (x + 20)
theorem colTo_25 (a : Nat → Nat) (x : Nat) (hx : x < 5) : colTo a 25 x = col a x := by
  have : x = 0 ∨ x = 1 ∨ x = 2 ∨ x = 3 ∨ x = 4 := by omega
  rcases this with rfl | rfl | rfl | rfl | rfl <;> simp [colTo, upd, col]

def thD (c : Nat → Nat) (x : Nat) : Nat := c ((x + 4) % 5) ^^^ rotl (c ((x + 1) % 5)) 1
def thTo (a c : Nat → Nat) : Nat → Nat → Nat
  | 0 => a
  | k + 1 => upd (thTo a c k) k (thTo a c k k ^^^ thD c (k % 5))
theorem thTo_eq (a c : Nat → Nat) (k i : Nat) : thTo a c k i = if i < k then a i ^^^ thD c (i % 5) else a i := by
  induction k generalizing i with
  | zero => simp [thTo]
  | succ k ih =>
    simp only [thTo, upd]
    by_cases h : i = k
    · subst h; simp [ih]
    · rw [if_neg h, ih]
      by_cases h2 : i < k
      · rw [if_pos h2, if_pos (by omega)]
      · rw [if_neg h2, if_neg (by omega)]
def theta (a : Nat → Nat) : Nat → Nat := thTo a (colTo a 25) 25
theorem theta_eq (a : Nat → Nat) (i : Nat) (hi : i < 25) : theta a i = a i ^^^ (col a ((i + 4) % 5) ^^^ rotl (col a ((i + 1) % 5)) 1) := by
  unfold theta
  rw [thTo_eq, if_pos hi]
  unfold thD
  rw [colTo_25 _ _ (by omega), colTo_25 _ _ (by omega), show (i % 5 + 4) % 5 = (i + 4) % 5 from by omega, show (i % 5 + 1) % 5 = (i + 1) % 5 from by omega]
theorem col_lt (a : Nat → Nat) (x : Nat) (h : Ok a) (hx : x < 5) : col a x < 2 ^ 64 := by
  unfold col
  exact Nat.xor_lt_two_pow (Nat.xor_lt_two_pow (Nat.xor_lt_two_pow (Nat.xor_lt_two_pow (h _ (by omega)) (h _ (by omega))) (h _ (by omega))) (h _ (by omega))) (h _ (by omega))
theorem theta_ok (a : Nat → Nat) (h : Ok a) : Ok (theta a) := by
  intro i hi
  rw [theta_eq a i hi]
  exact Nat.xor_lt_two_pow (h i hi) (Nat.xor_lt_two_pow (col_lt _ _ h (by omega)) (rotl_lt _ _ (col_lt _ _ h (by omega))))

/-! rho and pi in one -/
def xy : Nat → Nat × Nat
  | 0 => (1, 0)
  | t + 1 => ((xy t).2, (2 * (xy t).1 + 3 * (xy t).2) % 5)
def turnTo (a : Nat → Nat) : Nat → Nat → Nat
  | 0 => upd (fun _ => 0) 0 (a 0)
  | t + 1 => upd (turnTo a t) (lane (xy t).2 ((2 * (xy t).1 + 3 * (xy t).2) % 5)) (rotl (a (lane (xy t).1 (xy t).2)) ((t + 1) * (t + 2) / 2 % 64))
def turn (a : Nat → Nat) : Nat → Nat := turnTo a 24
theorem xy_lt (t : Nat) : (xy t).1 < 5 ∧ (xy t).2 < 5 := by
  induction t with
  | zero => simp [xy]
  | succ t ih => simp only [xy]; omega

/-! chi -/
def chiAt (a : Nat → Nat) (i : Nat) : Nat := a i ^^^ andn (a (lane (i % 5 + 2) (i / 5))) (a (lane (i % 5 + 1) (i / 5)))
def chiTo (a : Nat → Nat) : Nat → Nat → Nat
  | 0 => fun _ => 0
  | k + 1 => upd (chiTo a k) k (chiAt a k)
def chi (a : Nat → Nat) : Nat → Nat := chiTo a 25
theorem chiTo_eq (a : Nat → Nat) (k i : Nat) : chiTo a k i = if i < k then chiAt a i else 0 := by
  induction k generalizing i with
  | zero => simp [chiTo]
  | succ k ih =>
    simp only [chiTo, upd]
    by_cases h : i = k
    · subst h; simp
    · rw [if_neg h, ih]
      by_cases h2 : i < k
      · rw [if_pos h2, if_pos (by omega)]
      · rw [if_neg h2, if_neg (by omega)]
theorem chi_eq (a : Nat → Nat) (i : Nat) (hi : i < 25) : chi a i = chiAt a i := by unfold chi; rw [chiTo_eq, if_pos hi]
theorem lane_lt (x y : Nat) : lane x y < 25 := by unfold lane; omega
theorem chi_ok (a : Nat → Nat) (h : Ok a) : Ok (chi a) := by
  intro i hi
  rw [chi_eq a i hi]
  exact Nat.xor_lt_two_pow (h i hi) (andn_lt _ _ (h _ (lane_lt _ _)))

/-! a round, all rounds -/
def rnd (a : Nat → Nat) (c : Nat) : Nat → Nat := upd (chi (turn (theta a))) 0 (chi (turn (theta a)) 0 ^^^ c)
def consts : List Nat := [1, 32898, 9223372036854808714, 9223372039002292224, 32907, 2147483649, 9223372039002292353, 9223372036854808585, 138, 136, 2147516425, 2147483658, 2147516555, 9223372036854775947, 9223372036854808713, 9223372036854808579, 9223372036854808578, 9223372036854775936, 32778, 9223372039002259466, 9223372039002292353, 9223372036854808704, 2147483649, 9223372039002292232]
def perm (a : Nat → Nat) : Nat → Nat := consts.foldl rnd a

/-- What 'turn' has put where: the place it came from, and by how much it was turned. -/
def src : List (Nat × Nat) := [(0, 0), (6, 44), (12, 43), (18, 21), (24, 14), (3, 28), (9, 20), (10, 3), (16, 45), (22, 61), (1, 1), (7, 6), (13, 25), (19, 8), (20, 18), (4, 27), (5, 36), (11, 10), (17, 15), (23, 56), (2, 62), (8, 55), (14, 39), (15, 41), (21, 2)]
theorem rotl_zero (x : Nat) (hx : x < 2 ^ 64) : rotl x 0 = x := by
  unfold rotl
  simp only [Nat.pow_zero, Nat.mul_one, Nat.sub_zero]
  rw [Nat.mod_eq_of_lt hx, Nat.div_eq_of_lt hx, Nat.or_zero]
def dst (t : Nat) : Nat := lane (xy t).2 ((2 * (xy t).1 + 3 * (xy t).2) % 5)
theorem dst_inj : ∀ t, t < 24 → ∀ u, u < 24 → dst t = dst u → t = u := by decide +kernel
theorem dst_pos : ∀ t, t < 24 → dst t ≠ 0 := by decide +kernel
theorem src_dst : ∀ i, i < 25 → i ≠ 0 → ∃ t, t < 24 ∧ dst t = i ∧ (src.getD i (0, 0)).1 = lane (xy t).1 (xy t).2 ∧ (src.getD i (0, 0)).2 = (t + 1) * (t + 2) / 2 % 64 := by decide +kernel
theorem turnTo_zero (a : Nat → Nat) (k : Nat) (hk : k ≤ 24) : turnTo a k 0 = a 0 := by
  induction k with
  | zero => simp [turnTo, upd]
  | succ k ih =>
    show upd (turnTo a k) (dst k) _ 0 = _
    rw [upd_other _ _ _ _ (fun e => dst_pos k (by omega) e.symm)]
    exact ih (by omega)
theorem turnTo_dst (a : Nat → Nat) (t : Nat) (k : Nat) (hk : k ≤ 24) (ht : t < k) : turnTo a k (dst t) = rotl (a (lane (xy t).1 (xy t).2)) ((t + 1) * (t + 2) / 2 % 64) := by
  induction k with
  | zero => omega
  | succ k ih =>
    show upd (turnTo a k) (dst k) _ (dst t) = _
    by_cases h : t = k
    · subst h; exact upd_same _ _ _
    · rw [upd_other _ _ _ _ (fun e => h (dst_inj t (by omega) k (by omega) e))]
      exact ih (by omega) (by omega)
theorem turn_eq (a : Nat → Nat) (i : Nat) (hi : i < 25) (h0 : a 0 < 2 ^ 64) : turn a i = rotl (a (src.getD i (0, 0)).1) (src.getD i (0, 0)).2 := by
  by_cases h : i = 0
  · subst h
    rw [turn, turnTo_zero a 24 (by omega)]
    exact (rotl_zero _ h0).symm
  · obtain ⟨t, ht, rfl, h1, h2⟩ := src_dst i hi h
    rw [h1, h2]
    exact turnTo_dst a t 24 (by omega) ht
theorem src_ok : ∀ i, i < 25 → (src.getD i (0, 0)).1 < 25 ∧ (src.getD i (0, 0)).2 < 64 := by decide
theorem turn_ok (a : Nat → Nat) (h : Ok a) : Ok (turn a) := by
  intro i hi
  rw [turn_eq a i hi (h 0 (by omega))]
  exact rotl_lt _ _ (h _ (src_ok i hi).1)
theorem rnd_ok (a : Nat → Nat) (c : Nat) (h : Ok a) (hc : c < 2 ^ 64) : Ok (rnd a c) := by
  have hk := chi_ok _ (turn_ok _ (theta_ok a h))
  intro i hi
  unfold rnd upd
  split
  · exact Nat.xor_lt_two_pow (hk 0 (by omega)) hc
  · exact hk i hi
theorem consts_lt : ∀ c ∈ consts, c < 2 ^ 64 := by decide
theorem fold_ok (l : List Nat) (a : Nat → Nat) (h : Ok a) (hl : ∀ c ∈ l, c < 2 ^ 64) : Ok (l.foldl rnd a) := by
  induction l generalizing a with
  | nil => exact h
  | cons c l ih => exact ih _ (rnd_ok a c h (hl c (by simp))) (fun d hd => hl d (by simp [hd]))
theorem perm_ok (a : Nat → Nat) (h : Ok a) : Ok (perm a) := fold_ok _ _ h consts_lt

/-! What is the same on 25 places is taken to the same. -/
def Same (a b : Nat → Nat) : Prop := ∀ i, i < 25 → a i = b i
theorem col_same {a b : Nat → Nat} (h : Same a b) (x : Nat) (hx : x < 5) : col a x = col b x := by
  unfold col; rw [h x (by omega), h (x + 5) (by omega), h (x + 10) (by omega), h (x + 15) (by omega), h (x + 20) (by omega)]
theorem theta_same {a b : Nat → Nat} (h : Same a b) : Same (theta a) (theta b) := by
  intro i hi
  rw [theta_eq a i hi, theta_eq b i hi, h i hi, col_same h _ (by omega), col_same h _ (by omega)]
theorem turn_same {a b : Nat → Nat} (h : Same a b) (ha : Ok a) : Same (turn a) (turn b) := by
  intro i hi
  rw [turn_eq a i hi (ha 0 (by omega)), turn_eq b i hi (by rw [← h 0 (by omega)]; exact ha 0 (by omega)), h _ (src_ok i hi).1]
theorem chi_same {a b : Nat → Nat} (h : Same a b) : Same (chi a) (chi b) := by
  intro i hi
  rw [chi_eq a i hi, chi_eq b i hi]
  unfold chiAt
  rw [h i hi, h _ (lane_lt _ _), h _ (lane_lt _ _)]
theorem rnd_same {a b : Nat → Nat} (h : Same a b) (ha : Ok a) (c : Nat) : Same (rnd a c) (rnd b c) := by
  have hk := chi_same (turn_same (theta_same h) (theta_ok a ha))
  intro i hi
  unfold rnd upd
  rw [hk 0 (by omega), hk i hi]
theorem fold_same (l : List Nat) : ∀ {a b : Nat → Nat}, Same a b → Ok a → (∀ c ∈ l, c < 2 ^ 64) → Same (l.foldl rnd a) (l.foldl rnd b) := by
  induction l with
  | nil => intro a b h _ _; exact h
  | cons c l ih => intro a b h ha hl; exact ih (rnd_same h ha c) (rnd_ok a c ha (hl c (by simp))) (fun d hd => hl d (by simp [hd]))
theorem perm_same {a b : Nat → Nat} (h : Same a b) (ha : Ok a) : Same (perm a) (perm b) := fold_same _ h ha consts_lt

end Kec
end Go.Proofs.YtblfodhbimgonaaDoor
