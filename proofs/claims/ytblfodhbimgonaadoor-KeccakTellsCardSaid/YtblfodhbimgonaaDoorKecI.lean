/- The permutation takes unlike lanes to unlike ones. No program in sight. -/
import Derived.Test.YtblfodhbimgonaaDoorKecA
namespace Go.Proofs.YtblfodhbimgonaaDoor
namespace Kec
set_option linter.unusedVariables false
set_option linter.unusedSimpArgs false
set_option maxRecDepth 100000

theorem xor_cancel {x y t : Nat} (h : x ^^^ t = y ^^^ t) : x = y := by
  have := congrArg (· ^^^ t) h
  simpa [Nat.xor_assoc] using this

/-! theta -/
theorem dbl (d : Nat → Nat → Bool) (k : Nat) (h : ∀ x z, d x z = (d (x + 4 * k) z ^^ d (x + k) (z + 63 * k))) : ∀ x z, d x z = (d (x + 4 * (2 * k)) z ^^ d (x + 2 * k) (z + 63 * (2 * k))) := by
  intro x z
  have h1 := h (x + 4 * k) z
  have h2 := h (x + k) (z + 63 * k)
  rw [show x + 4 * k + 4 * k = x + 4 * (2 * k) from by omega, show x + 4 * k + k = x + 5 * k from by omega] at h1
  rw [show x + k + 4 * k = x + 5 * k from by omega, show x + k + k = x + 2 * k from by omega, show z + 63 * k + 63 * k = z + 63 * (2 * k) from by omega] at h2
  rw [h x z, h1, h2]
  generalize d (x + 4 * (2 * k)) z = p
  generalize d (x + 5 * k) (z + 63 * k) = q
  generalize d (x + 2 * k) (z + 63 * (2 * k)) = r
  cases p <;> cases q <;> cases r <;> rfl
theorem five : ∀ e0 e1 e2 e3 e4 : Bool, e0 = (e1 ^^ e4) → e1 = (e2 ^^ e0) → e2 = (e3 ^^ e1) → e3 = (e4 ^^ e2) → e4 = (e0 ^^ e3) → e0 = false ∧ e1 = false ∧ e2 = false ∧ e3 = false ∧ e4 = false := by decide
theorem quiet_cols (d : Nat → Nat → Bool) (h5 : ∀ x z, d (x + 5) z = d x z) (h64 : ∀ x z, d x (z + 64) = d x z) (h : ∀ x z, d x z = (d (x + 4) z ^^ d (x + 1) (z + 63))) : ∀ x z, x < 5 → d x z = false := by
  have p5 : ∀ n x z, d (x + 5 * n) z = d x z := by
    intro n
    induction n with
    | zero => intro x z; rfl
    | succ n ih => intro x z; rw [show x + 5 * (n + 1) = x + 5 * n + 5 from by omega, h5, ih]
  have p64 : ∀ n x z, d x (z + 64 * n) = d x z := by
    intro n
    induction n with
    | zero => intro x z; rfl
    | succ n ih => intro x z; rw [show z + 64 * (n + 1) = z + 64 * n + 64 from by omega, h64, ih]
  have h1 := dbl d 1 h
  have h2 := dbl d 2 h1
  have h3 := dbl d 4 h2
  have h4 := dbl d 8 h3
  have h5' := dbl d 16 h4
  have h6 := dbl d 32 h5'
  have key : ∀ x z, d x z = (d (x + 1) z ^^ d (x + 4) z) := by
    intro x z
    rw [h6 x z]
    rw [show x + 4 * (2 * 32) = x + 1 + 5 * 51 from by omega, show x + 2 * 32 = x + 4 + 5 * 12 from by omega, show z + 63 * (2 * 32) = z + 64 * 63 from by omega, p5, p5, p64]
  intro x z hx
  have k0 := key 0 z
  have k1 := key 1 z
  have k2 := key 2 z
  have k3 := key 3 z
  have k4 := key 4 z
  have q5 : d 5 z = d 0 z := h5 0 z
  have q6 : d 6 z = d 1 z := h5 1 z
  have q7 : d 7 z = d 2 z := h5 2 z
  have q8 : d 8 z = d 3 z := h5 3 z
  simp only [Nat.zero_add, Nat.reduceAdd] at k0 k1 k2 k3 k4
  rw [q5] at k1 k4
  rw [q6] at k2
  rw [q7] at k3
  rw [q8] at k4
  have hf := five _ _ _ _ _ k0 k1 k2 k3 k4
  have : x = 0 ∨ x = 1 ∨ x = 2 ∨ x = 3 ∨ x = 4 := by omega
  rcases this with rfl | rfl | rfl | rfl | rfl
  · exact hf.1
  · exact hf.2.1
  · exact hf.2.2.1
  · exact hf.2.2.2.1
  · exact hf.2.2.2.2
theorem col_theta (a : Nat → Nat) (x : Nat) (hx : x < 5) : col (theta a) x = col a x ^^^ thD (col a) x := by
  have h : ∀ j, j < 25 → j % 5 = x → theta a j = a j ^^^ thD (col a) x := by
    intro j hj hm
    rw [theta_eq a j hj, thD, ← hm, show (j % 5 + 4) % 5 = (j + 4) % 5 from by omega, show (j % 5 + 1) % 5 = (j + 1) % 5 from by omega]
  obtain ⟨t, ht⟩ : ∃ t, thD (col a) x = t := ⟨_, rfl⟩
  rw [ht] at h ⊢
  unfold col
  rw [h x (by omega) (by omega), h (x + 5) (by omega) (by omega), h (x + 10) (by omega) (by omega), h (x + 15) (by omega) (by omega), h (x + 20) (by omega) (by omega)]
  apply Nat.eq_of_testBit_eq
  intro z
  simp only [Nat.testBit_xor]
  generalize (a x).testBit z = b0
  generalize (a (x + 5)).testBit z = b1
  generalize (a (x + 10)).testBit z = b2
  generalize (a (x + 15)).testBit z = b3
  generalize (a (x + 20)).testBit z = b4
  generalize t.testBit z = b5
  clear ht h
  revert b0 b1 b2 b3 b4 b5
  decide
theorem thD_bit (c : Nat → Nat) (hc : ∀ x, x < 5 → c x < 2 ^ 64) (x z : Nat) (hz : z < 64) : (thD c x).testBit z = ((c ((x + 4) % 5)).testBit z ^^ (c ((x + 1) % 5)).testBit ((z + 63) % 64)) := by
  unfold thD
  rw [Nat.testBit_xor, testBit_rotl _ 1 z (hc _ (by omega)) (by omega) hz, show z + 64 - 1 = z + 63 from by omega]
theorem theta_inj {a b : Nat → Nat} (ha : Ok a) (hb : Ok b) (h : Same (theta a) (theta b)) : Same a b := by
  have hc : ∀ x, x < 5 → col a x ^^^ thD (col a) x = col b x ^^^ thD (col b) x := fun x hx => by
    rw [← col_theta a x hx, ← col_theta b x hx, col_same h x hx]
  have hz : ∀ x z, x < 5 → ((col a (x % 5)).testBit (z % 64) ^^ (col b (x % 5)).testBit (z % 64)) = false := by
    refine quiet_cols (fun x z => (col a (x % 5)).testBit (z % 64) ^^ (col b (x % 5)).testBit (z % 64)) ?_ ?_ ?_
    · intro x z; simp only [Nat.add_mod_right]
    · intro x z; simp only [Nat.add_mod_right]
    · intro x z
      have e := congrArg (fun n => n.testBit (z % 64)) (hc (x % 5) (by omega))
      simp only [Nat.testBit_xor] at e
      rw [thD_bit (col a) (fun x hx => col_lt a x ha hx) _ _ (by omega), thD_bit (col b) (fun x hx => col_lt b x hb hx) _ _ (by omega)] at e
      rw [show (x % 5 + 4) % 5 = (x + 4) % 5 from by omega, show (x % 5 + 1) % 5 = (x + 1) % 5 from by omega, show (z % 64 + 63) % 64 = (z + 63) % 64 from by omega] at e
      generalize (col a (x % 5)).testBit (z % 64) = p0 at *
      generalize (col b (x % 5)).testBit (z % 64) = p1 at *
      generalize (col a ((x + 4) % 5)).testBit (z % 64) = p2 at *
      generalize (col b ((x + 4) % 5)).testBit (z % 64) = p3 at *
      generalize (col a ((x + 1) % 5)).testBit ((z + 63) % 64) = p4 at *
      generalize (col b ((x + 1) % 5)).testBit ((z + 63) % 64) = p5 at *
      revert e
      revert p0 p1 p2 p3 p4 p5
      decide
  have hcol : ∀ x, x < 5 → col a x = col b x := by
    intro x hx
    refine eq_of_bits (col_lt a x ha hx) (col_lt b x hb hx) fun z hz' => ?_
    have := hz x z hx
    rw [Nat.mod_eq_of_lt hx, Nat.mod_eq_of_lt hz'] at this
    revert this
    generalize (col a x).testBit z = p
    generalize (col b x).testBit z = q
    revert p q
    decide
  intro i hi
  have hi' := h i hi
  rw [theta_eq a i hi, theta_eq b i hi, hcol _ (by omega), hcol _ (by omega)] at hi'
  exact xor_cancel hi'

/-! turn -/
theorem rotl_inj {x y r : Nat} (hx : x < 2 ^ 64) (hy : y < 2 ^ 64) (hr : r < 64) (h : rotl x r = rotl y r) : x = y := by
  refine eq_of_bits hx hy fun z hz => ?_
  have e := congrArg (fun n => n.testBit ((z + r) % 64)) h
  rw [testBit_rotl x r _ hx hr (by omega), testBit_rotl y r _ hy hr (by omega), show ((z + r) % 64 + 64 - r) % 64 = z from by omega] at e
  exact e
theorem src_onto : ∀ j, j < 25 → ∃ i, i < 25 ∧ (src.getD i (0, 0)).1 = j := by decide
theorem turn_inj {a b : Nat → Nat} (ha : Ok a) (hb : Ok b) (h : Same (turn a) (turn b)) : Same a b := by
  intro j hj
  obtain ⟨i, hi, rfl⟩ := src_onto j hj
  have e := h i hi
  rw [turn_eq a i hi (ha 0 (by decide)), turn_eq b i hi (hb 0 (by decide))] at e
  exact rotl_inj (ha _ hj) (hb _ hj) (src_ok i hi).2 e

/-! chi -/
theorem chi5 : ∀ a0 a1 a2 a3 a4 b0 b1 b2 b3 b4 : Bool, (a0 ^^ (a2 && !a1)) = (b0 ^^ (b2 && !b1)) → (a1 ^^ (a3 && !a2)) = (b1 ^^ (b3 && !b2)) → (a2 ^^ (a4 && !a3)) = (b2 ^^ (b4 && !b3)) → (a3 ^^ (a0 && !a4)) = (b3 ^^ (b0 && !b4)) → (a4 ^^ (a1 && !a0)) = (b4 ^^ (b1 && !b0)) →
    a0 = b0 ∧ a1 = b1 ∧ a2 = b2 ∧ a3 = b3 ∧ a4 = b4 := by decide +kernel
theorem chi_bit (a : Nat → Nat) (ha : Ok a) (y x z : Nat) (hy : y < 5) (hx : x < 5) (hz : z < 64) : (chi a (5 * y + x)).testBit z = ((a (5 * y + x)).testBit z ^^ ((a (5 * y + (x + 2) % 5)).testBit z && !(a (5 * y + (x + 1) % 5)).testBit z)) := by
  rw [chi_eq a _ (by omega), chiAt, Nat.testBit_xor, show lane ((5 * y + x) % 5 + 2) ((5 * y + x) / 5) = 5 * y + (x + 2) % 5 from by unfold lane; omega, show lane ((5 * y + x) % 5 + 1) ((5 * y + x) / 5) = 5 * y + (x + 1) % 5 from by unfold lane; omega,
    testBit_andn _ _ _ (ha _ (by omega)) hz]
theorem chi_inj {a b : Nat → Nat} (ha : Ok a) (hb : Ok b) (h : Same (chi a) (chi b)) : Same a b := by
  have row : ∀ y, y < 5 → ∀ z, z < 64 → ∀ x, x < 5 → (a (5 * y + x)).testBit z = (b (5 * y + x)).testBit z := by
    intro y hy z hz
    have e : ∀ x, x < 5 → (((a (5 * y + x)).testBit z ^^ ((a (5 * y + (x + 2) % 5)).testBit z && !(a (5 * y + (x + 1) % 5)).testBit z))) = ((b (5 * y + x)).testBit z ^^ ((b (5 * y + (x + 2) % 5)).testBit z && !(b (5 * y + (x + 1) % 5)).testBit z)) := fun x hx => by
      rw [← chi_bit a ha y x z hy hx hz, ← chi_bit b hb y x z hy hx hz, h _ (by omega)]
    have f := chi5 _ _ _ _ _ _ _ _ _ _ (e 0 (by decide)) (e 1 (by decide)) (e 2 (by decide)) (e 3 (by decide)) (e 4 (by decide))
    intro x hx
    have : x = 0 ∨ x = 1 ∨ x = 2 ∨ x = 3 ∨ x = 4 := by omega
    rcases this with rfl | rfl | rfl | rfl | rfl
    · exact f.1
    · exact f.2.1
    · exact f.2.2.1
    · exact f.2.2.2.1
    · exact f.2.2.2.2
  intro i hi
  have e := fun z hz => row (i / 5) (by omega) z hz (i % 5) (by omega)
  rw [show 5 * (i / 5) + i % 5 = i from by omega] at e
  exact eq_of_bits (ha i hi) (hb i hi) e

theorem rnd_inj {a b : Nat → Nat} (ha : Ok a) (hb : Ok b) (c : Nat) (h : Same (rnd a c) (rnd b c)) : Same a b := by
  have ta := theta_ok a ha
  have tb := theta_ok b hb
  have ua := turn_ok _ ta
  have ub := turn_ok _ tb
  refine theta_inj ha hb (turn_inj ta tb (chi_inj ua ub fun i hi => ?_))
  have e := h i hi
  simp only [rnd, upd] at e
  by_cases h0 : i = 0
  · subst h0
    simp only [if_true] at e
    exact xor_cancel e
  · rw [if_neg h0, if_neg h0] at e
    exact e
theorem fold_inj (l : List Nat) : ∀ {a b : Nat → Nat}, Ok a → Ok b → (∀ c ∈ l, c < 2 ^ 64) → Same (l.foldl rnd a) (l.foldl rnd b) → Same a b := by
  induction l with
  | nil => intro a b _ _ _ h; exact h
  | cons c l ih =>
    intro a b ha hb hl h
    have hc := hl c (by simp)
    exact rnd_inj ha hb c (ih (rnd_ok a c ha hc) (rnd_ok b c hb hc) (fun d hd => hl d (by simp [hd])) h)
theorem perm_inj {a b : Nat → Nat} (ha : Ok a) (hb : Ok b) (h : Same (perm a) (perm b)) : Same a b := fold_inj consts ha hb consts_lt h
theorem perm_iff {a b : Nat → Nat} (ha : Ok a) (hb : Ok b) : Same (perm a) (perm b) ↔ Same a b := ⟨perm_inj ha hb, fun h => fold_same consts h ha consts_lt⟩
end Kec
end Go.Proofs.YtblfodhbimgonaaDoor
