/- The document's Digits, carried, FromDigits, by their walks. -/
import Derived.Test.YtkgbecgdappjoaaDoorNa
namespace Go.Proofs.YtkgbecgdappjoaaDoor
open Go.RowKit Go.Shelf
set_option linter.unusedVariables false
set_option linter.unusedSimpArgs false

/-- The digits of a word. -/
def digF (a : Nat → Nat) (k : Nat) : Nat := a (k / 8) / 256 ^ (k % 8) % 256
set_option maxRecDepth 100000 in
set_option maxHeartbeats 2000000 in
theorem digits_any (a : Nat → Nat) (ha : ∀ i, i < 4 → a i < 2 ^ 64) (w : World) :
    Calls Tryd.prog 39 #[.agg (wordV a)] w fun e W' => ∃ v', e = .returned v' ∧ Bi W' w.heap.size v' 32 (digF a) ∧ Below w.heap.size w W' := by
  have hA0 := Holds_.new w 24 (wordV a)
  have hB0 := (Below.refl w.heap.size w).alloc (Nat.le_refl _) (.cells (wordV a) 24)
  have hN := Bi.nil_ (w.alloc (.cells (wordV a) 24)) (w.heap.size + 1) (digF a)
  go_enter Tryd.func39, Tryd.ntmps39
  go_wp2_with fail
  generalize (w.alloc (.cells (wordV a) 24)) = w0 at *
  have hlt0 := hA0.lt
  go_loopw [3, 4] (fun ov iv wr => ∃ i : Nat, i ≤ 4 ∧ iv = .int .i64 i ∧ Bi wr (w.heap.size + 1) ov (8 * i) (digF a) ∧ Holds_ wr w.heap.size 24 (wordV a) ∧ Below w.heap.size w wr ∧ w.heap.size + 1 ≤ wr.heap.size) (fun _ iv _ => 4 - (intOf iv).toNat)
  case atStart => exact ⟨0, by omega, rfl, hN, hA0, hB0, hlt0⟩
  case round =>
    clear hN hA0 hB0 hlt0
    obtain ⟨i, hi, rfl, hO, hA, hB, hl⟩ := hrel
    by_cases hlt : i < 4
    · have j1 : (i : Int) < 4 := by omega
      have c0 : wr.cell? ⟨w.heap.size, i, none⟩ = some (.int .u64 (a i : Nat)) := (hA.cell _).trans (row_get _ _ _ _ hlt)
      go_wp2_with fail
      clear c0
      go_loopw [3, 5, 6] (fun ov xv zv wq => ∃ z : Nat, z ≤ 8 ∧ zv = .int .i64 z ∧ xv = .int .u64 ((a i / 256 ^ z : Nat) : Int) ∧ Bi wq (w.heap.size + 1) ov (8 * i + z) (digF a) ∧ Holds_ wq w.heap.size 24 (wordV a) ∧ Below w.heap.size w wq ∧ w.heap.size + 1 ≤ wq.heap.size) (fun _ _ zv _ => 8 - (intOf zv).toNat)
      case atStart => exact ⟨0, by omega, rfl, by simp, hO, hA, hB, hl⟩
      case round =>
        clear hO hA hB hl
        obtain ⟨z, hz, rfl, rfl, hO, hA, hB, hl⟩ := hrel
        by_cases hlt2 : z < 8
        · have j2 : (z : Int) < 8 := by omega
          obtain ⟨x, hx⟩ : ∃ x, a i / 256 ^ z = x := ⟨_, rfl⟩
          have hxl : x < 2 ^ 64 := by rw [← hx]; exact Nat.lt_of_le_of_lt (Nat.div_le_self _ _) (ha i hlt)
          obtain ⟨u, hu⟩ : ∃ u, x % 256 = u := ⟨_, rfl⟩
          obtain ⟨x2, hx2⟩ : ∃ u, x / 256 = u := ⟨_, rfl⟩
          have hcu : digF a (8 * i + z) = u := by
            unfold digF
            rw [show (8 * i + z) / 8 = i by omega, show (8 * i + z) % 8 = z by omega, hx, hu]
          have hxn : a i / 256 ^ (z + 1) = x2 := by rw [Nat.pow_succ, ← Nat.div_div_eq_div_mul, hx, hx2]
          rw [hx]
          have b1 : (x : Int) < 18446744073709551616 := by omega
          have i1 : (x : Int).tmod 256 = (u : Int) := by rw [← hu]; rfl
          have i2 : (x : Int) % 256 = (u : Int) := by omega
          have i3 : (x : Int).tdiv 256 = (x2 : Int) := by rw [← hx2]; rfl
          have i4 : (x : Int) / 256 = (x2 : Int) := by omega
          have b2 : (u : Int) < 256 := by omega
          have b3 : (x2 : Int) < 18446744073709551616 := by omega
          have HX := Lib.hid hxn
          clear hx hu hx2 hxn
          go_wp2_with (at_builtin; refine wpList_append_one rfl _ _ rfl (w.heap.size + 1) (8 * i + z) _ (digF a) rfl (hO.alloc _) wr.heap.size u rfl (Holds_.new wr 3 _) hcu.symm (by omega) ?d1 ?_)
          case d1 => first | omega | (simp; omega)
          intro v' w' hO' hb'
          have hb2 : Below (w.heap.size + 1) wr w' := ((Below.refl _ _).alloc hl _).trans hb'
          have hB' : Below w.heap.size w w' := hB.trans (hb2.mono (by omega))
          have hA' := hA.below hb2 (by omega)
          have hl' : w.heap.size + 1 ≤ w'.heap.size := Nat.le_trans hl hb2.size
          go_wp2_with fail
          go_roundw
          case rel => exact ⟨z + 1, by omega, by go_num, by rw [HX.out], hO', hA', hB', hl'⟩
          case measure => simp [intOf]; omega
        · obtain rfl : z = 8 := by omega
          go_wp2_with fail
          go_roundw
          case rel => exact ⟨i + 1, by omega, by go_num, hO, hA, hB, hl⟩
          case measure => simp [intOf]; omega
    · obtain rfl : i = 4 := by omega
      go_wp2_with fail
      go_ret
      exact ⟨_, rfl, hO.lower (by omega), hB⟩

/-! sums of digits, carried -/
def carC (f : Nat → Nat) : Nat → Nat
  | 0 => 0
  | i + 1 => (f i + carC f i) / 256
def carF (f : Nat → Nat) (i : Nat) : Nat := (f i + carC f i) % 256
theorem carC_le (f : Nat → Nat) (hf : ∀ i, i < 32 → f i ≤ 1000000000) (i : Nat) (hi : i ≤ 32) : carC f i ≤ 1000000000 := by
  induction i with
  | zero => exact Nat.zero_le _
  | succ i ih =>
    have h1 := ih (by omega)
    have h2 := hf i (by omega)
    simp only [carC]
    omega
set_option maxRecDepth 100000 in
set_option maxHeartbeats 2000000 in
theorem carried_any (b0 g c : Nat) (f : Nat → Nat) (hf : ∀ i, i < 32 → f i ≤ 1000000000) (w : World) (h : Bi w b0 (.slice (some ⟨g, 0, none⟩) 32 c) 32 f) :
    Calls Tryd.prog 41 #[.slice (some ⟨g, 0, none⟩) 32 c] w fun e W' => ∃ v', e = .returned v' ∧ Bi W' w.heap.size v' 32 (carF f) ∧ Below w.heap.size w W' := by
  have hN := Bi.nil_ w w.heap.size (carF f)
  go_enter Tryd.func41, Tryd.ntmps41
  go_wp2_with fail
  go_loopw [3, 4, 5] (fun ov cv iv wr => ∃ i : Nat, i ≤ 32 ∧ iv = .int .i64 i ∧ cv = .int .i64 ((carC f i : Nat) : Int) ∧ Bi wr w.heap.size ov i (carF f) ∧ Below w.heap.size w wr) (fun _ _ iv _ => 32 - (intOf iv).toNat)
  case atStart => exact ⟨0, by omega, rfl, rfl, hN, Below.refl _ _⟩
  case round =>
    clear hN
    obtain ⟨i, hi, rfl, rfl, hO, hB⟩ := hrel
    have hl := hB.size
    by_cases hlt : i < 32
    · have j1 : (i : Int) < 32 := by omega
      have c1 := (Bi.later h hB).cell i hlt
      have h1 := hf i hlt
      have h2 := carC_le f hf i hi
      have hcn : carC f (i + 1) = (f i + carC f i) / 256 := rfl
      have hcf : carF f i = (f i + carC f i) % 256 := rfl
      generalize carC f i = cc at *
      generalize f i = q at *
      obtain ⟨n, hn⟩ : ∃ n, q + cc = n := ⟨_, rfl⟩
      obtain ⟨r, hr⟩ : ∃ r, n % 256 = r := ⟨_, rfl⟩
      obtain ⟨c2, hc2⟩ : ∃ r, n / 256 = r := ⟨_, rfl⟩
      obtain ⟨m, hm⟩ : ∃ m, n - r = m := ⟨_, rfl⟩
      rw [hn, hc2] at hcn
      rw [hn, hr] at hcf
      have k1 : (q : Int) + (cc : Int) = (n : Int) := by omega
      have k2 : (n : Int).tmod 256 = (r : Int) := by rw [← hr]; rfl
      have k3 : ¬ (r : Int) < 0 := by omega
      have k4 : (n : Int) - (r : Int) = (m : Int) := by omega
      have k5 : (m : Int).tdiv 256 = (c2 : Int) := by
        rw [show m = 256 * c2 by omega]
        show ((256 * c2 / 256 : Nat) : Int) = _
        rw [Nat.mul_div_cancel_left _ (by omega)]
      have b1 : (q : Int) ≤ 1000000000 := by omega
      have b2 : (cc : Int) ≤ 1000000000 := by omega
      have b3 : (n : Int) ≤ 2000000000 := by omega
      have b4 : (r : Int) < 256 := by omega
      have b5 : (m : Int) ≤ 2000000000 := by omega
      have b6 : (c2 : Int) ≤ 2000000000 := by omega
      have HC := Lib.hid hcn
      clear hn hr hc2 hm hcn h1 h2
      go_wp2_with (at_builtin; refine wpList_append_one rfl _ _ rfl w.heap.size i _ (carF f) rfl (hO.alloc _) wr.heap.size r rfl (Holds_.new wr 3 _) hcf.symm (by omega) ?d1 ?_)
      case d1 => first | omega | (simp; omega)
      intro v' w' hO' hb'
      have hB' : Below w.heap.size w w' := (hB.alloc hl _).trans hb'
      go_wp2_with fail
      go_roundw
      case rel => exact ⟨i + 1, by omega, by go_num, by rw [HC.out], hO', hB'⟩
      case measure => simp [intOf]; omega
    · obtain rfl : i = 32 := by omega
      go_wp2_with fail
      go_ret
      exact ⟨_, rfl, hO, hB⟩

/-! the word of digits -/
def fdTo (f : Nat → Nat) : Nat → Nat → Nat
  | 0 => fun _ => 0
  | k + 1 => fput (fdTo f k) ((31 - k) / 8) (fdTo f k ((31 - k) / 8) * 256 + f (31 - k))
def hsum (f : Nat → Nat) (j : Nat) : Nat → Nat
  | 0 => 0
  | c + 1 => hsum f j c * 256 + f (8 * j + (7 - c))
theorem hsum_lt (f : Nat → Nat) (hf : ∀ i, i < 32 → f i < 256) (j c : Nat) (hj : j < 4) (hc : c ≤ 8) : hsum f j c < 256 ^ c := by
  induction c with
  | zero => exact Nat.one_pos
  | succ c ih =>
    have h1 := ih (by omega)
    have h2 := hf (8 * j + (7 - c)) (by omega)
    simp only [hsum, Nat.pow_succ]
    omega
theorem fdTo_eq (f : Nat → Nat) (k j : Nat) (hk : k ≤ 32) (hj : j < 4) : fdTo f k j = hsum f j (min 8 (8 * (j + 1) - (32 - k))) := by
  induction k with
  | zero => rw [show min 8 (8 * (j + 1) - (32 - 0)) = 0 by omega]; rfl
  | succ k ih =>
    have ih := ih (by omega)
    show fput _ _ _ j = _
    by_cases h : j = (31 - k) / 8
    · rw [← h, fput_same, ih]
      obtain ⟨c, hc⟩ : ∃ c, min 8 (8 * (j + 1) - (32 - k)) = c := ⟨_, rfl⟩
      rw [hc, show min 8 (8 * (j + 1) - (32 - (k + 1))) = c + 1 by omega]
      show _ = hsum f j c * 256 + f (8 * j + (7 - c))
      rw [show 8 * j + (7 - c) = 31 - k by omega]
    · rw [fput_other _ _ _ _ h, ih]
      congr 1
      omega
theorem word_put (f : Nat → Nat) (i v : Nat) (hi : i < 4) : (wordV f).setIfInBounds i (.int .u64 ((v : Nat) : Int)) = wordV (fput f i v) := by
  unfold wordV
  rw [row_put _ _ _ _ _ hi]
  refine row_congr fun j _ => ?_
  unfold fput
  split <;> rfl
theorem word_congr {f g : Nat → Nat} (h : ∀ j, j < 4 → f j = g j) : wordV f = wordV g := by
  unfold wordV
  exact row_congr fun j hj => by rw [h j hj]
def fdW (f : Nat → Nat) (j : Nat) : Nat := hsum f j 8
set_option maxRecDepth 100000 in
set_option maxHeartbeats 2000000 in
theorem fromDigits_any (b0 g c : Nat) (f : Nat → Nat) (hf : ∀ i, i < 32 → f i < 256) (w : World) (h : Bi w b0 (.slice (some ⟨g, 0, none⟩) 32 c) 32 f) :
    Calls Tryd.prog 40 #[.slice (some ⟨g, 0, none⟩) 32 c] w fun e W' => e = .returned (.agg (wordV (fdW f))) ∧ Below w.heap.size w W' := by
  have hR0 := (Holds_.new w 24 (wordV (fun _ => 0))).alloc (.cells (wordV (fdTo f 0)) 24)
  have hO0 := Holds_.new (w.alloc (.cells (wordV (fun _ => 0)) 24)) 24 (wordV (fdTo f 0))
  simp only [World.size_alloc] at hO0
  have hB0 : Below w.heap.size w ((w.alloc (.cells (wordV (fun _ => 0)) 24)).alloc (.cells (wordV (fdTo f 0)) 24)) := ((Below.refl _ _).alloc (Nat.le_refl _) _).alloc (by simp) _
  have hmin : min (32 : Int) 32 = 32 := by decide
  go_enter Tryd.func40, Tryd.ntmps40
  go_wp2_with fail
  refine wp_abs (fun W => Holds_ W w.heap.size 24 (wordV (fun _ => 0)) ∧ Holds_ W (w.heap.size + 1) 24 (wordV (fdTo f 0)) ∧ Below w.heap.size w W) ⟨hR0, hO0, hB0⟩ ?_
  clear hR0 hO0 hB0
  rintro W ⟨hR, hO, hB⟩
  go_loopw [4] (fun kv wr => ∃ k : Nat, k ≤ 32 ∧ kv = .int .i64 (31 - (k : Int)) ∧ Holds_ wr w.heap.size 24 (wordV (fun _ => 0)) ∧ Holds_ wr (w.heap.size + 1) 24 (wordV (fdTo f k)) ∧ Below w.heap.size w wr) (fun kv _ => (intOf kv + 1).toNat)
  case atStart => exact ⟨0, by omega, rfl, hR, hO, hB⟩
  case round =>
    clear hR hO hB
    obtain ⟨k, hk, rfl, hR, hO, hB⟩ := hrel
    by_cases hlt : k < 32
    · obtain ⟨z, hz⟩ : ∃ z, 31 - k = z := ⟨_, rfl⟩
      have hzi : (31 : Int) - (k : Int) = (z : Int) := by omega
      rw [hzi]
      have hzl : z < 32 := by omega
      obtain ⟨j, hj⟩ : ∃ j, z / 8 = j := ⟨_, rfl⟩
      have hjl : j < 4 := by omega
      have hstep : fdTo f (k + 1) = fput (fdTo f k) j (fdTo f k j * 256 + f z) := by
        show fput (fdTo f k) ((31 - k) / 8) _ = _
        rw [hz, hj]
      have hxl : fdTo f k j < 72057594037927936 := by
        rw [fdTo_eq f k j (by omega) hjl]
        exact Nat.lt_of_lt_of_le (hsum_lt f hf j _ hjl (by omega)) (Nat.pow_le_pow_right (show 0 < 256 by omega) (show min 8 (8 * (j + 1) - (32 - k)) ≤ 7 by omega))
      have hql := hf z hzl
      have c1 : wr.cell? ⟨w.heap.size + 1, j, none⟩ = some (.int .u64 (fdTo f k j : Nat)) := (hO.cell _).trans (row_get _ _ _ _ hjl)
      have f1 := hO.free j
      have c2 := (Bi.later h hB).cell z hzl
      have hOn := hO.put j (.int .u64 ((fdTo f k j * 256 + f z : Nat) : Int))
      rw [word_put _ _ _ hjl, ← hstep] at hOn
      have hRn := hR.far (p := ⟨w.heap.size + 1, j, none⟩) (by simp) (.int .u64 ((fdTo f k j * 256 + f z : Nat) : Int))
      have hBn := hB.setCell (p := ⟨w.heap.size + 1, j, none⟩) (by simp) (.int .u64 ((fdTo f k j * 256 + f z : Nat) : Int))
      generalize fdTo f k j = x at *
      generalize f z = q at *
      obtain ⟨x2, hx2⟩ : ∃ u, x * 256 = u := ⟨_, rfl⟩
      obtain ⟨y, hy⟩ : ∃ u, x2 + q = u := ⟨_, rfl⟩
      rw [hx2, hy] at hOn hRn hBn
      have k1 : (z : Int).tdiv 8 = (j : Int) := by rw [← hj]; rfl
      have k2 : IntKind.i64.wrap (j : Int) = (j : Int) := IntWalk.i64_in _ (by omega)
      have k3 : IntKind.u64.wrap ((x : Int) * 256) = (x2 : Int) := by rw [IntKind.wrap_u64]; omega
      have k4 : IntKind.u64.wrap (q : Int) = (q : Int) := by rw [IntKind.wrap_u64]; omega
      have k5 : IntKind.u64.wrap ((x2 : Int) + (q : Int)) = (y : Int) := by rw [IntKind.wrap_u64]; omega
      have j1 : (j : Int) < 4 := by omega
      have j2 : (z : Int) < 32 := by omega
      have j3 : (0 : Int) ≤ (z : Int) := by omega
      clear hR hO hB hstep hj hx2 hy hz
      go_wp2_with fail
      refine wp_region_still_tail 14 (by kernel_rfl) (by kernel_rfl) ?_
      simp only [List.take_succ_cons, List.take_zero, List.drop_succ_cons, List.drop_zero]
      repeat still_step
      refine wpStill_nil ?_
      clear k1 k2 k3 k4 k5 c2
      go_wp2_with fail
      go_roundw
      case rel => exact ⟨k + 1, by omega, by rw [← hzi]; first | done | go_num, hRn.drew, hOn.drew, hBn.drew⟩
      case measure => simp [intOf] <;> omega
    · obtain rfl : k = 32 := by omega
      rw [word_congr (g := fdW f) (fun j hj => by rw [fdTo_eq f 32 j (by omega) hj, show min 8 (8 * (j + 1) - (32 - 32)) = 8 by omega]; rfl)] at hO
      go_wp2_with (first
        | ((with_reducible show wpList _ _ _ (⟨some 27, _, _, _, _, _⟩ :: _) _ _); refine wpList_loadRow rfl 24 _ rfl (w.heap.size + 1) rfl 24 _ _ hO Tryd.underlying24 rfl (by rw [row_size]; exact info24) ?_)
        | ((with_reducible show wpList _ _ _ (⟨none, _, _, _, _, _⟩ :: _) _ _); refine wpList_storeRow rfl 24 _ _ rfl w.heap.size _ rfl rfl 24 _ hR (by rw [row_size]; exact info24) (by simp [row_size]) (row_one _ _ _) ?_))
      have hR2 := hR.putRow (wordV (fdW f))
      exact bodyPost_ret (results_cell_row rfl _ _ w.heap.size 24 _ (0, 0) _ rfl hR2 Tryd.underlying24 rfl (by rw [row_size]; exact info24)) rfl ⟨rfl, below_putRow hB (Nat.le_refl _) _⟩
end Go.Proofs.YtkgbecgdappjoaaDoor
