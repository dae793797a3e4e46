/- The mix once more, laid so that the kernel reckons it; and the examples' hashes. -/
import Derived.Test.YtkgbecgdappjoaaDoorShA
namespace Go.Proofs.YtkgbecgdappjoaaDoor
namespace Sha
set_option linter.unusedVariables false
set_option maxRecDepth 100000

/-- A number is reckoned before it is used. -/
def fz {A : Type} (n : Nat) (k : Nat → A) : A :=
  match n with
  | 0 => k 0
  | m + 1 => k (Nat.succ m)
theorem fz_eq {A : Type} (n : Nat) (k : Nat → A) : fz n k = k n := by cases n <;> rfl
def stepK (b : List UInt8) (l : List Nat) (i : Nat) : Nat :=
  if i < 16 then num ((b.drop (4 * i)).take 4) else add (add (add (l.getD 15 0) (l.getD 6 0)) (fz (l.getD 14 0) s0)) (fz (l.getD 1 0) s1)
def goW (b : List UInt8) : Nat → Nat → List Nat → List Nat
  | 0, _, l => l
  | n + 1, i, l => fz (stepK b l i) fun x => goW b n (i + 1) (x :: l)
def goR : List (Nat × Nat) → Nat → Nat → Nat → Nat → Nat → Nat → Nat → Nat → List Nat
  | [], a, b, c, d, e, f, g, h => [a, b, c, d, e, f, g, h]
  | p :: l, a, b, c, d, e, f, g, h =>
    fz (add (add (add (add h (turnL e [6, 11, 25])) ((e &&& f) ^^^ (not32 e &&& g))) p.1) p.2) fun t =>
    fz (add (turnL a [2, 13, 22]) ((a &&& b) ^^^ (a &&& c) ^^^ (b &&& c))) fun u =>
    fz (add d t) fun e' => fz (add t u) fun a' => goR l a' a b c e' e f g
def lst8 (a : Nat → Nat) : List Nat := [a 0, a 1, a 2, a 3, a 4, a 5, a 6, a 7]
theorem rnd_0 (c w : Nat) (v : Nat → Nat) : rnd c w v 0 = add (tt c w v) (uu v) := by simp [rnd, upd]
theorem rnd_4 (c w : Nat) (v : Nat → Nat) : rnd c w v 4 = add (v 3) (tt c w v) := by simp [rnd, upd, shift]
theorem rnd_i (c w : Nat) (v : Nat → Nat) (i : Nat) (h0 : i ≠ 0) (h4 : i ≠ 4) : rnd c w v i = v (i - 1) := by simp [rnd, upd, shift, h0, h4]
theorem goR_eq (l : List (Nat × Nat)) : ∀ v : Nat → Nat, goR l (v 0) (v 1) (v 2) (v 3) (v 4) (v 5) (v 6) (v 7) = lst8 (l.foldl (fun v p => rnd p.1 p.2 v) v) := by
  induction l with
  | nil => intro v; rfl
  | cons p l ih =>
    intro v
    have h := ih (rnd p.1 p.2 v)
    rw [rnd_0, rnd_4, rnd_i _ _ _ 1 (by decide) (by decide), rnd_i _ _ _ 2 (by decide) (by decide), rnd_i _ _ _ 3 (by decide) (by decide), rnd_i _ _ _ 5 (by decide) (by decide), rnd_i _ _ _ 6 (by decide) (by decide), rnd_i _ _ _ 7 (by decide) (by decide)] at h
    rw [goR, fz_eq, fz_eq, fz_eq, fz_eq, List.foldl_cons]
    unfold tt uu at h
    exact h
theorem lst8_getD (a : Nat → Nat) (i : Nat) (hi : i < 8) : (lst8 a).getD i 0 = a i := by
  match i, hi with
  | 0, _ => rfl
  | 1, _ => rfl
  | 2, _ => rfl
  | 3, _ => rfl
  | 4, _ => rfl
  | 5, _ => rfl
  | 6, _ => rfl
  | 7, _ => rfl
theorem lst8_two (a : Nat → Nat) : (lst8 a).take 2 = [a 0, a 1] := rfl
theorem rndTo_fold (c w h : Nat → Nat) (k : Nat) : rndTo c w h k = (List.range k).foldl (fun v i => rnd (c i) (w i) v) h := by
  induction k with
  | zero => rfl
  | succ k ih => rw [List.range_succ, List.foldl_append, ← ih]; rfl
/-- A list of what a function tells, the last one first. -/
def revL (f : Nat → Nat) : Nat → List Nat
  | 0 => []
  | k + 1 => f k :: revL f k
theorem revL_get (f : Nat → Nat) (k j : Nat) (hj : j < k) : (revL f k).getD j 0 = f (k - 1 - j) := by
  induction k generalizing j with
  | zero => omega
  | succ k ih =>
    cases j with
    | zero => rfl
    | succ j =>
      show (revL f k).getD j 0 = _
      rw [ih j (by omega)]
      congr 1
      omega
theorem wTo_stay (b : List UInt8) (k j : Nat) (hj : j < k) : wTo b k j = wTo b (j + 1) j := by
  induction k with
  | zero => omega
  | succ k ih =>
    by_cases h : j = k
    · subst h; rfl
    · have : wTo b (k + 1) j = wTo b k j := by simp [wTo, upd, h]
      rw [this, ih (by omega)]
def wF (b : List UInt8) (j : Nat) : Nat := wTo b (j + 1) j
theorem stepK_eq (b : List UInt8) (k : Nat) : stepK b (revL (wF b) k) k = wF b k := by
  have hw : wF b k = wAt b (wTo b k) k := by simp [wF, wTo, upd]
  rw [hw]
  unfold stepK wAt
  split
  · rfl
  · rename_i h
    rw [fz_eq, fz_eq, revL_get _ _ _ (by omega), revL_get _ _ _ (by omega), revL_get _ _ _ (by omega), revL_get _ _ _ (by omega)]
    rw [wTo_stay b k (k - 16) (by omega), wTo_stay b k (k - 7) (by omega), wTo_stay b k (k - 15) (by omega), wTo_stay b k (k - 2) (by omega)]
    rw [show k - 1 - 15 = k - 16 from by omega, show k - 1 - 6 = k - 7 from by omega, show k - 1 - 14 = k - 15 from by omega, show k - 1 - 1 = k - 2 from by omega]
    rfl
theorem goW_eq (b : List UInt8) (n : Nat) : ∀ i, goW b n i (revL (wF b) i) = revL (wF b) (i + n) := by
  induction n with
  | zero => intro i; rfl
  | succ n ih =>
    intro i
    rw [goW, fz_eq, stepK_eq, show i + (n + 1) = i + 1 + n from by omega, ← ih (i + 1)]
    rfl
theorem revL_rev (f : Nat → Nat) (k : Nat) : (revL f k).reverse = (List.range k).map f := by
  induction k with
  | zero => rfl
  | succ k ih => rw [revL, List.reverse_cons, ih, List.range_succ, List.map_append]; rfl
theorem constants_map : constants = (List.range 64).map cF := by decide +kernel
theorem zip_map (f g : Nat → Nat) (l : List Nat) : (l.map f).zip (l.map g) = l.map fun i => (f i, g i) := by
  induction l with
  | nil => rfl
  | cons x l ih => simp [ih]
def mixK (b : List UInt8) : List Nat := goR (constants.zip (goW b 64 0 []).reverse) (hF 0) (hF 1) (hF 2) (hF 3) (hF 4) (hF 5) (hF 6) (hF 7)
theorem wTo_wF (b : List UInt8) (n i : Nat) (hi : i < n) : wTo b n i = wF b i := wTo_stay b n i hi
theorem fold_congr (f g : (Nat → Nat) → Nat → Nat → Nat) (n : Nat) (h : ∀ v i, i < n → f v i = g v i) (l : List Nat) : (∀ i ∈ l, i < n) → ∀ v : Nat → Nat, l.foldl f v = l.foldl g v := by
  induction l with
  | nil => intro _ _; rfl
  | cons i l ih =>
    intro hl v
    rw [List.foldl_cons, List.foldl_cons, h v i (hl i List.mem_cons_self)]
    exact ih (fun j hj => hl j (List.mem_cons_of_mem _ hj)) _
theorem fold_stay (c : Nat → Nat) (b : List UInt8) (n : Nat) (h : Nat → Nat) : (List.range n).foldl (fun v i => rnd (c i) (wTo b n i) v) h = (List.range n).foldl (fun v i => rnd (c i) (wF b i) v) h := by
  refine fold_congr _ _ n ?_ _ (fun i hi => List.mem_range.1 hi) h
  intro v i hi
  have e := wTo_wF b n i hi
  simp only [e]
theorem mixK_gen (c : Nat → Nat) (b : List UInt8) (n : Nat) (h : Nat → Nat) : goR (((List.range n).map c).zip (goW b n 0 []).reverse) (h 0) (h 1) (h 2) (h 3) (h 4) (h 5) (h 6) (h 7) = lst8 (rndTo c (wTo b n) h n) := by
  have h1 : goW b n 0 [] = revL (wF b) n := by
    have := goW_eq b n 0
    rw [Nat.zero_add] at this
    exact this
  rw [goR_eq, h1, revL_rev, zip_map, List.foldl_map, rndTo_fold, fold_stay]
theorem mixK_eq (b : List UInt8) : mixK b = lst8 (rndTo cF (wTo b 64) hF 64) := by
  unfold mixK
  rw [constants_map]
  exact mixK_gen cF b 64 hF
theorem mix_two (b : List UInt8) (x y : Nat) (h : (mixK b).take 2 = [x, y]) : mix hF b 0 = add (hF 0) x ∧ mix hF b 1 = add (hF 1) y := by
  rw [mixK_eq, lst8_two] at h
  unfold mix
  generalize rndTo cF (wTo b 64) hF 64 = v at *
  injection h with h0 h1
  injection h1 with h1
  subst h0
  subst h1
  exact ⟨by simp [sumTo], by simp [sumTo]⟩
theorem out_six (m : Nat → Nat) : (outTo m 8).take 6 = high (m 0) 4 ++ (high (m 1) 4).take 2 := by
  have h : ∀ n, (high n 4).length = 4 := fun n => high_length n 4
  unfold outTo
  rw [show List.range 8 = 0 :: 1 :: [2, 3, 4, 5, 6, 7] from rfl, List.flatMap_cons, List.flatMap_cons, List.take_append, h, List.take_append, h, List.take_of_length_le (by rw [h]; decide)]
  simp
theorem sum_six (l : List UInt8) (hl : (padL l).length = 64) : (sumL l).take 6 = high (mix hF (padL l) 0) 4 ++ (high (mix hF (padL l) 1) 4).take 2 := by
  unfold sumL
  have h0 : mixL (padL l) (List.range 0) = hF := rfl
  rw [out_six, hl, show 64 / 64 = 0 + 1 from rfl, List.range_succ, mixL_snoc, h0, Nat.mul_zero, List.drop_zero, List.take_of_length_le (by omega)]
theorem two_nil : (mixK (padL [])).take 2 = [2040978907, 3717492111] := by decide +kernel
theorem two_abc : (mixK (padL [97, 98, 99])).take 2 = [1349398616, 3550093669] := by decide +kernel
theorem sum_nil : (sumL []).take 6 = [227, 176, 196, 66, 152, 252] := by
  obtain ⟨h0, h1⟩ := mix_two _ _ _ two_nil
  rw [sum_six _ (by rw [padL_length]; decide), h0, h1]
  decide +kernel
theorem sum_abc : (sumL [97, 98, 99]).take 6 = [186, 120, 22, 191, 143, 1] := by
  obtain ⟨h0, h1⟩ := mix_two _ _ _ two_abc
  rw [sum_six _ (by rw [padL_length]; decide), h0, h1]
  decide +kernel
end Sha
end Go.Proofs.YtkgbecgdappjoaaDoor
