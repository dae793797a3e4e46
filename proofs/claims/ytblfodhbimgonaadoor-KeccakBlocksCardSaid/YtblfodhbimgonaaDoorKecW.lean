/- Plain laws on blocks that are added byte by byte. No program in sight. -/
import Derived.Test.YtblfodhbimgonaaDoorKecC
namespace Go.Proofs.YtblfodhbimgonaaDoor
namespace Kec
set_option linter.unusedVariables false
set_option linter.unusedSimpArgs false

/-- The lane i of the block c, where only the first k bytes of the block have come. -/
def pw (p : List UInt8) (c k i : Nat) : Nat := lowN ((p.drop (136 * c + 8 * i)).take (min 8 (k - 8 * i)))
theorem pw_zero (p : List UInt8) (c i : Nat) : pw p c 0 i = 0 := by
  unfold pw
  rw [show min 8 (0 - 8 * i) = 0 from by omega]
  rfl
theorem pw_all (p : List UInt8) (c i : Nat) : pw p c 136 i = if i < 17 then word p c i else 0 := by
  unfold pw
  split
  · rw [show min 8 (136 - 8 * i) = 8 from by omega]; rfl
  · rw [show min 8 (136 - 8 * i) = 0 from by omega]; rfl
theorem pw_lt (p : List UInt8) (c k i : Nat) : pw p c k i < 2 ^ 64 := by
  unfold pw
  refine Nat.lt_of_lt_of_le (lowN_lt _) ?_
  rw [pow256]
  exact Nat.pow_le_pow_right (by decide) (by simp only [List.length_take]; omega)
theorem pw_other (p : List UInt8) (c k i : Nat) (h : i ≠ k / 8) : pw p c (k + 1) i = pw p c k i := by
  unfold pw
  rw [show min 8 (k + 1 - 8 * i) = min 8 (k - 8 * i) from by omega]
theorem pw_parts (p : List UInt8) (c k : Nat) (h : 136 * c + k < p.length) :
    ∃ l : List UInt8, l.length = k % 8 ∧ pw p c k (k / 8) = lowN l ∧ pw p c (k + 1) (k / 8) = lowN (l ++ [p.getD (136 * c + k) 0]) := by
  refine ⟨(p.drop (136 * c + 8 * (k / 8))).take (k % 8), ?_, ?_, ?_⟩
  · rw [List.length_take, List.length_drop]; omega
  · unfold pw
    rw [show min 8 (k - 8 * (k / 8)) = k % 8 from by omega]
  · unfold pw
    rw [show min 8 (k + 1 - 8 * (k / 8)) = k % 8 + 1 from by omega, List.take_succ_eq_append_getElem (by rw [List.length_drop]; omega)]
    congr 2
    simp only [List.getElem_drop]
    rw [List.getD_eq_getElem?_getD, List.getElem?_eq_getElem h]
    simp only [Option.getD_some]
    congr 2
    omega
theorem pw_or (p : List UInt8) (c k : Nat) (h : 136 * c + k < p.length) : pw p c (k + 1) (k / 8) = pw p c k (k / 8) ||| (p.getD (136 * c + k) 0).toNat * 2 ^ (8 * (k % 8)) := by
  obtain ⟨l, hl, h1, h2⟩ := pw_parts p c k h
  rw [h2, h1, lowN_or, hl]
theorem or_is_xor (x b r : Nat) (hx : x < 2 ^ r) : x ||| b * 2 ^ r = x ^^^ b * 2 ^ r := by
  apply Nat.eq_of_testBit_eq
  intro z
  rw [Nat.testBit_or, Nat.testBit_xor, Nat.testBit_mul_two_pow]
  by_cases hz : z < r
  · simp [show ¬ r ≤ z by omega]
  · rw [Nat.testBit_lt_two_pow (Nat.lt_of_lt_of_le hx (Nat.pow_le_pow_right (by decide) (by omega)))]
    simp
theorem pw_xor (p : List UInt8) (c k : Nat) (h : 136 * c + k < p.length) : pw p c (k + 1) (k / 8) = pw p c k (k / 8) ^^^ (p.getD (136 * c + k) 0).toNat * 2 ^ (8 * (k % 8)) := by
  obtain ⟨l, hl, h1, h2⟩ := pw_parts p c k h
  rw [h2, h1, lowN_or, hl, or_is_xor]
  have := lowN_lt l
  rwa [pow256, hl] at this
theorem byte_lt (b k : Nat) (hb : b < 256) : b * 2 ^ (8 * (k % 8)) < 18446744073709551616 := by
  have hp : 2 ^ (8 * (k % 8)) ≤ 2 ^ 56 := Nat.pow_le_pow_right (by decide) (by omega)
  calc b * 2 ^ (8 * (k % 8)) ≤ 255 * 2 ^ (8 * (k % 8)) := Nat.mul_le_mul_right _ (by omega)
    _ ≤ 255 * 2 ^ 56 := Nat.mul_le_mul_left _ hp
    _ < 18446744073709551616 := by decide

/-- Lanes to which the first k bytes of the block c have been added. -/
def xorTo (a : Nat → Nat) (p : List UInt8) (c k i : Nat) : Nat := a i ^^^ pw p c k i
theorem xorTo_ok (a : Nat → Nat) (p : List UInt8) (c k : Nat) (ha : Ok a) : Ok (xorTo a p c k) := fun i hi => Nat.xor_lt_two_pow (ha i hi) (pw_lt p c k i)
theorem xorTo_zero (a : Nat → Nat) (p : List UInt8) (c : Nat) : xorTo a p c 0 = a := by
  funext i; unfold xorTo; rw [pw_zero]; exact Nat.xor_zero _
theorem xorTo_succ (a : Nat → Nat) (p : List UInt8) (c k : Nat) (h : 136 * c + k < p.length) :
    xorTo a p c (k + 1) = upd (xorTo a p c k) (k / 8) (xorTo a p c k (k / 8) ^^^ (p.getD (136 * c + k) 0).toNat * 2 ^ (8 * (k % 8))) := by
  funext i
  unfold xorTo upd
  by_cases hi : i = k / 8
  · subst hi; rw [if_pos rfl, pw_xor p c k h, Nat.xor_assoc]
  · rw [if_neg hi, pw_other p c k i hi]
theorem xorTo_all (a : Nat → Nat) (p : List UInt8) (c : Nat) : xorTo a p c 136 = absTo a p c 17 := by
  funext i
  unfold xorTo
  rw [pw_all, absTo_eq]
  split
  · rfl
  · exact Nat.xor_zero _
def orTo (p : List UInt8) (k i : Nat) : Nat := pw p 0 k i
theorem orTo_succ (p : List UInt8) (k : Nat) (h : k < p.length) :
    orTo p (k + 1) = upd (orTo p k) (k / 8) (orTo p k (k / 8) ||| (p.getD k 0).toNat * 2 ^ (8 * (k % 8))) := by
  funext i
  have e : 136 * 0 + k = k := by omega
  unfold orTo upd
  by_cases hi : i = k / 8
  · subst hi
    rw [if_pos rfl, pw_or p 0 k (by omega), e]
  · rw [if_neg hi, pw_other p 0 k i hi]
theorem orTo_all (p : List UInt8) : orTo p 136 = absTo zero p 0 17 := by
  funext i
  unfold orTo
  rw [pw_all, absTo_eq]
  unfold zero
  split
  · exact (Nat.zero_xor _).symm
  · rfl
theorem orTo_none (p : List UInt8) : orTo p 0 = zero := by
  funext i; exact pw_zero p 0 i
theorem absL_range (p : List UInt8) (c : Nat) : absL p (List.range (c + 1)) = absB p (absL p (List.range c)) c := by
  rw [List.range_succ]; exact absL_snoc _ _ _
end Kec
end Go.Proofs.YtblfodhbimgonaaDoor
