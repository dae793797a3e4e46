/- Hashes of noughts hang on how many there are, up to three hundred: reckoned by the kernel. No program in sight. -/
import Derived.Test.YtblfodhbimgonaaDoorKecE
namespace Go.Proofs.YtblfodhbimgonaaDoor
namespace Kec
set_option linter.unusedVariables false
set_option linter.unusedSimpArgs false
set_option maxRecDepth 100000

theorem outByte_bit (a : Nat → Nat) (z : Nat) (hz : z < 64) : (outByte a (z / 8)).toNat.testBit (z % 8) = (a 0).testBit z := by
  have h : (outByte a (z / 8)).toNat = a 0 / 2 ^ (8 * (z / 8)) % 2 ^ 8 := by
    have e1 : z / 8 / 8 = 0 := by omega
    have e2 : z / 8 % 8 = z / 8 := by omega
    simp [outByte, e1, e2]
  rw [h, Nat.testBit_mod_two_pow, Nat.testBit_div_two_pow]
  have : z % 8 < 8 := by omega
  simp only [this, decide_true, Bool.true_and]
  rw [show z % 8 + 8 * (z / 8) = z from by omega]
theorem outL_lane {a b : Nat → Nat} (ha : a 0 < 2 ^ 64) (hb : b 0 < 2 ^ 64) (h : outL a = outL b) : a 0 = b 0 := by
  refine eq_of_bits ha hb fun z hz => ?_
  have hi : z / 8 < 32 := by omega
  have e := congrArg (fun l : List UInt8 => l[z / 8]?) h
  simp only [outL, List.getElem?_map, List.getElem?_range hi, Option.map_some, Option.some.injEq] at e
  rw [← outByte_bit a z hz, ← outByte_bit b z hz, e]
/-- The hash's first lane. -/
def laneK (l : List UInt8) : Nat := ((List.range ((padL l).length / 136)).foldl (absK (padL l)) (lst zero)).headD 0
theorem laneK_eq (l : List UInt8) : laneK l = absL (padL l) (List.range ((padL l).length / 136)) 0 := by
  unfold laneK absL
  rw [absKs_eq _ _ _ zero_ok, lst_head]
theorem sum_lane {l m : List UInt8} (h : sumL l = sumL m) : laneK l = laneK m := by
  rw [laneK_eq, laneK_eq]
  exact outL_lane (absL_ok _ _ 0 (by decide)) (absL_ok _ _ 0 (by decide)) h
def zerosK (k : Nat) : Nat := laneK (List.replicate k 0)
def adjK : Nat → Nat → Nat → Bool
  | 0, _, _ => true
  | n + 1, k, p => fz (zerosK (k + 1)) fun x => !(Nat.beq x p) && adjK n (k + 1) x
theorem adjK_ne (n : Nat) : ∀ k, adjK n k (zerosK k) = true → ∀ i, i < n → zerosK (k + i) ≠ zerosK (k + i + 1) := by
  induction n with
  | zero => intro k _ i hi; omega
  | succ n ih =>
    intro k h i hi
    simp only [adjK, fz_eq, Bool.and_eq_true, Bool.not_eq_true'] at h
    cases i with
    | zero =>
      intro e
      have e' : zerosK (k + 1) = zerosK k := e.symm
      rw [e', Nat.beq_refl] at h
      exact absurd h.1 (by simp)
    | succ i =>
      have := ih (k + 1) h.2 i (by omega)
      rwa [show k + 1 + i = k + (i + 1) from by omega] at this
def adjS (n k : Nat) : Bool := fz (zerosK k) fun p => adjK n k p
theorem adjS_ne (n k : Nat) (h : adjS n k = true) : ∀ i, i < n → zerosK (k + i) ≠ zerosK (k + i + 1) := adjK_ne n k (by rw [adjS, fz_eq] at h; exact h)
end Kec
end Go.Proofs.YtblfodhbimgonaaDoor
