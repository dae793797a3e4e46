/- Plain laws on pads: what stands behind a text, and that unlike texts have unlike pads. No program in sight. -/
import Derived.Test.YtblfodhbimgonaaDoorKecB
namespace Go.Proofs.YtblfodhbimgonaaDoor
namespace Kec
set_option linter.unusedVariables false
set_option linter.unusedSimpArgs false

/-- What is put behind a text. -/
def tail : Nat → List UInt8
  | 0 => [129]
  | j + 1 => 1 :: (List.replicate j 0 ++ [128])
theorem tail_length (j : Nat) : (tail j).length = j + 1 := by cases j <;> simp [tail]
theorem padL_tail (l : List UInt8) : padL l = l ++ tail (padN l.length) := by
  unfold padL
  generalize padN l.length = j
  unfold padM
  rw [List.set_append_right _ _ (by omega), Nat.add_sub_cancel_left]
  congr 1
  cases j with
  | zero => simp [tail, List.getD]; rfl
  | succ j =>
    have hg : (l ++ 1 :: List.replicate (j + 1) (0 : UInt8)).getD (l.length + (j + 1)) 0 = 0 := by
      simp [List.getD, List.getElem?_append_right, List.getElem?_replicate]
    rw [hg]
    simp only [tail, List.set_cons_succ]
    congr 1
    rw [List.replicate_succ', List.set_append_right _ _ (by simp)]
    simp
theorem padL_full (l : List UInt8) : (padL l).length = 136 * (l.length / 136 + 1) := by
  rw [padL_length]
  unfold padN
  omega
theorem padN_zero (n : Nat) : padN n = 0 ↔ n % 136 = 135 := by unfold padN; omega
theorem tail_getD (j i : Nat) : (tail j).getD i 0 = if i = 0 then (if j = 0 then 129 else 1) else if i = j then 128 else 0 := by
  cases j with
  | zero =>
    cases i with
    | zero => rfl
    | succ i => simp [tail, List.getD]
  | succ j =>
    cases i with
    | zero => rfl
    | succ i =>
      simp only [tail, List.getD, List.getElem?_cons_succ]
      by_cases h : i < j
      · rw [List.getElem?_append_left (by simpa using h), List.getElem?_replicate, if_pos h, if_neg (by omega), if_neg (by omega)]; rfl
      · by_cases h2 : i = j
        · subst h2; rw [List.getElem?_append_right (by simp)]; simp
        · rw [List.getElem?_eq_none (by simp; omega), if_neg (by omega), if_neg (by omega)]; rfl
theorem padL_getD (l : List UInt8) (i : Nat) : (padL l).getD (l.length + i) 0 = if i = 0 then (if padN l.length = 0 then 129 else 1) else if i = padN l.length then 128 else 0 := by
  rw [← tail_getD, padL_tail]
  simp [List.getD, List.getElem?_append_right]
theorem padL_last (l : List UInt8) : (padL l).getD ((padL l).length - 1) 0 = if l.length % 136 = 135 then 129 else 128 := by
  rw [padL_length, show l.length + 1 + padN l.length - 1 = l.length + padN l.length from by omega, padL_getD]
  by_cases h : padN l.length = 0
  · rw [if_pos h, if_pos h, if_pos ((padN_zero _).1 h)]
  · rw [if_neg h, if_pos rfl, if_neg (fun h2 => h ((padN_zero _).2 h2))]
theorem padL_one (l : List UInt8) : (padL l).getD l.length 0 = if padN l.length = 0 then 129 else 1 := padL_getD l 0
theorem tail_unlike {l m : List UInt8} {j k : Nat} (h : l ++ tail j = m ++ tail k) (hjk : j < k) : False := by
  have hlen := congrArg List.length h
  simp only [List.length_append, tail_length] at hlen
  have e := congrArg (fun p : List UInt8 => p.getD l.length 0) h
  simp only [List.getD] at e
  rw [List.getElem?_append_right (Nat.le_refl _), Nat.sub_self, List.getElem?_append_right (by omega), show l.length - m.length = k - j from by omega] at e
  have e1 := tail_getD j 0
  have e2 := tail_getD k (k - j)
  simp only [List.getD] at e1 e2
  rw [e1, e2] at e
  have hk : ¬ k - j = 0 := by omega
  by_cases h0 : j = 0
  · subst h0
    simp [hk, show ¬ k = 0 from by omega] at e
  · simp [hk, h0, show ¬ k - j = k from by omega] at e
theorem padL_inj {l m : List UInt8} (h : padL l = padL m) : l = m := by
  rw [padL_tail, padL_tail] at h
  rcases Nat.lt_trichotomy (padN l.length) (padN m.length) with hlt | heq | hgt
  · exact (tail_unlike h hlt).elim
  · rw [heq] at h; exact List.append_cancel_right h
  · exact (tail_unlike h.symm hgt).elim
theorem padL_take (l : List UInt8) : (padL l).take l.length = l := by rw [padL_tail, List.take_left']; rfl

/-- The sum of the first bytes. -/
def sumTo (l : List UInt8) : Nat → Nat
  | 0 => 0
  | k + 1 => sumTo l k + (l.getD k 0).toNat
theorem sumTo_le (l : List UInt8) (k : Nat) : sumTo l k ≤ 255 * k := by
  induction k with
  | zero => simp [sumTo]
  | succ k ih => have := (l.getD k 0).toNat_lt; simp only [sumTo]; omega
theorem sumTo_zeros (j k : Nat) (hk : k ≤ j) : sumTo (tail j) k = if k = 0 then 0 else 1 := by
  induction k with
  | zero => rfl
  | succ k ih =>
    simp only [sumTo]
    rw [ih (by omega), tail_getD]
    by_cases h : k = 0
    · subst h; rw [if_pos rfl, if_pos rfl, if_neg (show ¬ j = 0 by omega), if_neg (by omega)]; rfl
    · rw [if_neg h, if_neg h, if_neg (by omega), if_neg (by omega)]; rfl
theorem sumTo_tail (j : Nat) : sumTo (tail j) (j + 1) = 129 := by
  simp only [sumTo]
  rw [sumTo_zeros j j (Nat.le_refl _), tail_getD]
  by_cases h : j = 0
  · subst h; rfl
  · rw [if_neg h, if_neg h, if_pos rfl]; rfl
theorem padL_tail_getD (l : List UInt8) (i : Nat) : (padL l).getD (l.length + i) 0 = (tail (padN l.length)).getD i 0 := by
  rw [padL_getD, tail_getD]
end Kec
end Go.Proofs.YtblfodhbimgonaaDoor
