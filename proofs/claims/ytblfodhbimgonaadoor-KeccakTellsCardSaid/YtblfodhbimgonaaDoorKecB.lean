/- Plain laws on pads: what is put behind a text. No program in sight. -/
namespace Go.Proofs.YtblfodhbimgonaaDoor
namespace Kec

/-- How many noughts stand between the 1 and the end. -/
def padN (n : Nat) : Nat := (136 - (n + 1) % 136) % 136
def padM (l : List UInt8) (j : Nat) : List UInt8 := l ++ 1 :: List.replicate j 0
def padL (l : List UInt8) : List UInt8 := (padM l (padN l.length)).set (l.length + padN l.length) ((padM l (padN l.length)).getD (l.length + padN l.length) 0 ||| 128)
theorem padM_length (l : List UInt8) (j : Nat) : (padM l j).length = l.length + 1 + j := by simp [padM]; omega
theorem padM_succ (l : List UInt8) (j : Nat) : padM l (j + 1) = padM l j ++ [0] := by simp [padM, List.replicate_succ']
theorem padL_length (l : List UInt8) : (padL l).length = l.length + 1 + padN l.length := by simp [padL, padM_length]
theorem padN_lt (n : Nat) : padN n < 136 := by unfold padN; omega
theorem padN_test (n j : Nat) (hj : j ≤ padN n) : ((n + 1 + j) % 136 = 0) ↔ j = padN n := by unfold padN at *; omega
theorem padN_full (n : Nat) : (n + 1 + padN n) % 136 = 0 := (padN_test n _ (Nat.le_refl _)).2 rfl

/-! the number of bytes, the lowest one first -/
def lowN : List UInt8 → Nat
  | [] => 0
  | b :: l => b.toNat + 256 * lowN l
theorem lowN_lt (l : List UInt8) : lowN l < 256 ^ l.length := by
  induction l with
  | nil => simp [lowN]
  | cons b l ih =>
    have hb : b.toNat < 256 := b.toNat_lt
    simp only [lowN, List.length_cons, Nat.pow_succ]
    omega
theorem lowN_snoc (l : List UInt8) (b : UInt8) : lowN (l ++ [b]) = lowN l + b.toNat * 256 ^ l.length := by
  induction l with
  | nil => simp [lowN]
  | cons c l ih =>
    simp only [List.cons_append, lowN, ih, List.length_cons, Nat.pow_succ]
    have e : 256 * (b.toNat * 256 ^ l.length) = b.toNat * (256 ^ l.length * 256) := by rw [Nat.mul_left_comm, Nat.mul_comm 256]
    omega
theorem pow256 (k : Nat) : 256 ^ k = 2 ^ (8 * k) := by rw [Nat.pow_mul]
theorem lowN_or (l : List UInt8) (b : UInt8) : lowN (l ++ [b]) = lowN l ||| b.toNat * 2 ^ (8 * l.length) := by
  rw [lowN_snoc, pow256]
  have h := lowN_lt l
  rw [pow256] at h
  rw [Nat.or_comm, Nat.mul_comm, ← Nat.two_pow_add_eq_or_of_lt h b.toNat, Nat.add_comm]

end Kec
end Go.Proofs.YtblfodhbimgonaaDoor
