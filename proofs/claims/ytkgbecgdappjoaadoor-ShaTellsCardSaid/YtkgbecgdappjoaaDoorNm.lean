/- Products by digits are products. No program is walked here. -/
import Derived.Test.YtkgbecgdappjoaaDoorNe
namespace Go.Proofs.YtkgbecgdappjoaaDoor
set_option linter.unusedVariables false
set_option linter.unusedSimpArgs false

/-- The word of a number. -/
def wordOf (X j : Nat) : Nat := X / 2 ^ (64 * j) % 2 ^ 64
theorem wordOf_lt (X j : Nat) : wordOf X j < 2 ^ 64 := Nat.mod_lt _ (by decide)
theorem pow256 (k : Nat) : 256 ^ k = 2 ^ (8 * k) := by rw [Nat.pow_mul]
theorem cut_mod (X a b c : Nat) (h : a + c ≤ b) : X % 2 ^ b / 2 ^ a % 2 ^ c = X / 2 ^ a % 2 ^ c := by
  rw [show 2 ^ b = 2 ^ a * 2 ^ (b - a) by rw [← Nat.pow_add]; congr 1; omega, Nat.mod_mul_right_div_self]
  exact Nat.mod_mod_of_dvd _ (Nat.pow_dvd_pow 2 (by omega))
theorem digF_wordOf (A k : Nat) : digF (wordOf A) k = A / 256 ^ k % 256 := by
  unfold digF wordOf
  rw [pow256, pow256 k]
  have h := cut_mod (A / 2 ^ (64 * (k / 8))) (8 * (k % 8)) 64 8 (by omega)
  rw [show (256 : Nat) = 2 ^ 8 from rfl, h, Nat.div_div_eq_div_mul, ← Nat.pow_add]
  congr 3
  omega
theorem vsum_dig (A n : Nat) : vsum (fun k => A / 256 ^ k % 256) n = A % 256 ^ n := by
  induction n with
  | zero => show 0 = A % 1; omega
  | succ n ih => rw [vsum, ih, Nat.mod_pow_succ, Nat.mul_comm]
theorem vsum_congr {f g : Nat → Nat} {n : Nat} (h : ∀ k, k < n → f k = g k) : vsum f n = vsum g n := by
  induction n with
  | zero => rfl
  | succ n ih => rw [vsum, vsum, ih (fun k hk => h k (by omega)), h n (by omega)]
theorem vsum_tail (f : Nat → Nat) (m n : Nat) (h : m ≤ n) : ∃ T, vsum f n = vsum f m + 256 ^ m * T := by
  induction n with
  | zero => exact ⟨0, by rw [show m = 0 by omega]; rfl⟩
  | succ n ih =>
    by_cases e : m = n + 1
    · exact ⟨0, by rw [e]; rfl⟩
    · obtain ⟨T, hT⟩ := ih (by omega)
      refine ⟨T + f n * 256 ^ (n - m), ?_⟩
      rw [vsum, hT, Nat.mul_add, show 256 ^ m * (f n * 256 ^ (n - m)) = f n * (256 ^ m * 256 ^ (n - m)) by rw [Nat.mul_left_comm], ← Nat.pow_add, show m + (n - m) = n by omega]
      omega
theorem pos256 (i : Nat) : 0 < 256 ^ i := Nat.pow_pos (by omega)
theorem carC_eq (z : Nat → Nat) (i : Nat) : carC z i = vsum z i / 256 ^ i := by
  induction i with
  | zero => simp [carC, vsum]
  | succ i ih => rw [carC, ih, vsum, Nat.pow_succ, ← Nat.div_div_eq_div_mul, Nat.add_mul_div_right _ _ (pos256 i), Nat.add_comm]
theorem carF_eq (z : Nat → Nat) (i : Nat) (hi : i < 32) : carF z i = vsum z 32 / 256 ^ i % 256 := by
  obtain ⟨T, hT⟩ := vsum_tail z (i + 1) 32 (by omega)
  unfold carF
  rw [hT, carC_eq, vsum, Nat.pow_succ, Nat.mul_assoc, Nat.add_mul_div_left _ _ (pos256 i), Nat.add_mul_div_right _ _ (pos256 i), Nat.add_mul_mod_self_left, Nat.add_comm]
theorem hsum_eq (V j c : Nat) (hc : c ≤ 8) (f : Nat → Nat) (hf : ∀ k, k < 8 * j + 8 → f k = V / 256 ^ k % 256) : hsum f j c = V / 256 ^ (8 * j + 8 - c) % 256 ^ c := by
  induction c with
  | zero => show 0 = _ % 1; omega
  | succ c ih =>
    rw [hsum, ih (by omega), hf _ (by omega), Nat.pow_succ, Nat.mul_comm (256 ^ c) 256, Nat.mod_mul, Nat.div_div_eq_div_mul, ← Nat.pow_succ, show 8 * j + 8 - (c + 1) = 8 * j + (7 - c) by omega, show Nat.succ (8 * j + (7 - c)) = 8 * j + 8 - c by omega]
    omega
theorem mulR_eq (x y : Nat → Nat) (i k : Nat) : mulR x y i k = x i * (256 ^ i * vsum y k) := by
  induction k with
  | zero => rfl
  | succ k ih =>
    rw [mulR, ih, vsum, Nat.mul_add, Nat.mul_add, Nat.pow_add]
    congr 1
    rw [Nat.mul_assoc, Nat.mul_left_comm (y k)]
theorem mulT_mod (x : Nat → Nat) (B n : Nat) (hn : n ≤ 32) : mulT x (fun k => B / 256 ^ k % 256) n % 256 ^ 32 = vsum x n * B % 256 ^ 32 := by
  induction n with
  | zero => show 0 % _ = 0 * B % _; rw [Nat.zero_mul]
  | succ n ih =>
    have hm : 256 ^ n * (B % 256 ^ (32 - n)) = 256 ^ n * B % 256 ^ 32 := by
      rw [← Nat.mul_mod_mul_left, ← Nat.pow_add, show n + (32 - n) = 32 by omega]
    rw [mulT, mulR_eq, vsum_dig, hm, Nat.add_mod, ih (by omega), Nat.mul_mod_mod, vsum, Nat.add_mul, Nat.add_mod (vsum x n * B), Nat.mul_assoc (x n)]
theorem mulW (A B : Nat) (z : Nat → Nat) (h : IsMul (digF (wordOf A)) (digF (wordOf B)) z) (j : Nat) (hj : j < 4) : fdW (carF z) j = wordOf (A * B) j := by
  have hA : digF (wordOf A) = fun k => A / 256 ^ k % 256 := funext (digF_wordOf A)
  have hB : digF (wordOf B) = fun k => B / 256 ^ k % 256 := funext (digF_wordOf B)
  have hv := h.1
  rw [hA, hB] at hv
  have hm := mulT_mod (fun k => A / 256 ^ k % 256) B 32 (by omega)
  rw [← hv, vsum_dig, Nat.mod_mul_mod] at hm
  unfold fdW
  rw [hsum_eq (vsum z 32) j 8 (by omega) _ (fun k hk => carF_eq z k (by omega)), Nat.add_sub_cancel]
  have e1 := cut_mod (vsum z 32) (64 * j) 256 64 (by omega)
  have e2 := cut_mod (A * B) (64 * j) 256 64 (by omega)
  rw [show (2 : Nat) ^ 256 = 256 ^ 32 by rw [pow256]] at e1 e2
  rw [hm, e2] at e1
  unfold wordOf
  rw [e1, pow256, pow256, show 8 * (8 * j) = 64 * j by omega]
end Go.Proofs.YtkgbecgdappjoaaDoor
