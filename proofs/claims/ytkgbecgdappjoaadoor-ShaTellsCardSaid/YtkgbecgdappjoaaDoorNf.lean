/- The document's Of and Cmp, by their walks. -/
import Derived.Test.YtkgbecgdappjoaaDoorNm
namespace Go.Proofs.YtkgbecgdappjoaaDoor
open Go.RowKit Go.Shelf
set_option linter.unusedVariables false
set_option linter.unusedSimpArgs false

theorem wordOf_small (n : Nat) (hn : n < 18446744073709551616) : wordV (wordOf n) = #[.int .u64 (n : Nat), .int .u64 0, .int .u64 0, .int .u64 0] := by
  have h0 : wordOf n 0 = n := by unfold wordOf; simp; omega
  have h1 : ∀ j, 1 ≤ j → wordOf n j = 0 := fun j hj => by
    unfold wordOf
    rw [Nat.div_eq_of_lt (Nat.lt_of_lt_of_le hn (Nat.le_trans (show 18446744073709551616 ≤ 2 ^ 64 by decide) (Nat.pow_le_pow_right (by omega) (by omega))))]
  show (#[Value.int .u64 (wordOf n 0 : Nat), Value.int .u64 (wordOf n 1 : Nat), Value.int .u64 (wordOf n 2 : Nat), Value.int .u64 (wordOf n 3 : Nat)] : Array Value) = _
  rw [h0, h1 1 (by omega), h1 2 (by omega), h1 3 (by omega)]
  rfl
set_option maxRecDepth 100000 in
theorem ref_ofN (n : Nat) (hn : n < 4611686018427387904) (w : World) : Calls Tryd.prog 12 #[.int .i64 (n : Int)] w fun e W' => e = .returned (.agg (wordV (wordOf n))) ∧ Below w.heap.size w W' := by
  have e3 : IntKind.u64.wrap (n : Int) = (n : Int) := by rw [IntKind.wrap_u64]; omega
  have e4 : ¬ (n : Int) < 0 := by omega
  rw [wordOf_small n (by omega)]
  go_enter Tryd.func12, Tryd.ntmps12
  go_wp2_with fail
  exact bodyPost_ret (results_cell_row rfl _ _ w.heap.size 24 _ (0, 0) _ rfl ((Holds_.new w 24 _).alloc _) Tryd.underlying24 rfl info24) rfl ⟨rfl, ((Below.refl _ _).alloc (Nat.le_refl _) _).alloc (by simp) _⟩

def cmpI (A B : Nat) : Int := if A < B then -1 else if B < A then 1 else 0
theorem div_split (A i : Nat) : A / 2 ^ (64 * i) = A / 2 ^ (64 * (i + 1)) * 2 ^ 64 + wordOf A i := by
  unfold wordOf
  rw [show 64 * (i + 1) = 64 * i + 64 by omega, Nat.pow_add, ← Nat.div_div_eq_div_mul]
  have := Nat.div_add_mod (A / 2 ^ (64 * i)) (2 ^ 64)
  rw [Nat.mul_comm] at this
  omega
theorem lt_of_div {A B d : Nat} (h : A / d < B / d) : A < B := by
  rcases Nat.lt_or_ge A B with h2 | h2
  · exact h2
  · exact absurd (Nat.div_le_div_right (c := d) h2) (by omega)
set_option maxRecDepth 100000 in
set_option maxHeartbeats 1000000 in
theorem cmp_any (A B : Nat) (hA : A < 2 ^ 256) (hB : B < 2 ^ 256) (w : World) :
    Calls Tryd.prog 36 #[.agg (wordV (wordOf A)), .agg (wordV (wordOf B))] w fun e W' => e = .returned (.int .i64 (cmpI A B)) ∧ Below w.heap.size w W' := by
  have hA0 := (Holds_.new w 24 (wordV (wordOf A))).alloc (.cells (wordV (wordOf B)) 24)
  have hC0 := Holds_.new (w.alloc (.cells (wordV (wordOf A)) 24)) 24 (wordV (wordOf B))
  simp only [World.size_alloc] at hC0
  have hB0 : Below w.heap.size w ((w.alloc (.cells (wordV (wordOf A)) 24)).alloc (.cells (wordV (wordOf B)) 24)) := ((Below.refl _ _).alloc (Nat.le_refl _) _).alloc (by simp) _
  have ht0 : A / 2 ^ (64 * (4 - 0)) = B / 2 ^ (64 * (4 - 0)) := by
    rw [Nat.div_eq_of_lt hA, Nat.div_eq_of_lt hB]
  go_enter Tryd.func36, Tryd.ntmps36
  go_wp2_with fail
  refine wp_abs (fun W => Holds_ W w.heap.size 24 (wordV (wordOf A)) ∧ Holds_ W (w.heap.size + 1) 24 (wordV (wordOf B)) ∧ Below w.heap.size w W) ⟨hA0, hC0, hB0⟩ ?_
  clear hA0 hC0 hB0
  rintro W ⟨hWA, hWB, hW⟩
  go_loopw [5] (fun kv wr => ∃ k : Nat, k ≤ 4 ∧ kv = .int .i64 (3 - (k : Int)) ∧ A / 2 ^ (64 * (4 - k)) = B / 2 ^ (64 * (4 - k)) ∧ Holds_ wr w.heap.size 24 (wordV (wordOf A)) ∧ Holds_ wr (w.heap.size + 1) 24 (wordV (wordOf B)) ∧ Below w.heap.size w wr) (fun kv _ => (intOf kv + 1).toNat)
  case atStart => exact ⟨0, by omega, rfl, ht0, hWA, hWB, hW⟩
  case round =>
    clear ht0 hWA hWB hW
    obtain ⟨k, hk, rfl, ht, hWA, hWB, hW⟩ := hrel
    by_cases hlt : k < 4
    · obtain ⟨i, hi⟩ : ∃ i, 3 - k = i := ⟨_, rfl⟩
      have hii : (3 : Int) - (k : Int) = (i : Int) := by omega
      rw [hii]
      have hi4 : i < 4 := by omega
      have c1 : wr.cell? ⟨w.heap.size, i, none⟩ = some (.int .u64 (wordOf A i : Nat)) := (hWA.cell _).trans (row_get _ _ _ _ hi4)
      have c2 : wr.cell? ⟨w.heap.size + 1, i, none⟩ = some (.int .u64 (wordOf B i : Nat)) := (hWB.cell _).trans (row_get _ _ _ _ hi4)
      have hsA := div_split A i
      have hsB := div_split B i
      rw [show 4 - k = i + 1 by omega] at ht
      rw [← ht] at hsB
      have hnx : wordOf A i = wordOf B i → A / 2 ^ (64 * (4 - (k + 1))) = B / 2 ^ (64 * (4 - (k + 1))) := fun e => by
        rw [show 4 - (k + 1) = i by omega, hsA, hsB, e]
      have hlo : wordOf A i < wordOf B i → cmpI A B = -1 := fun h => by
        have : A < B := lt_of_div (d := 2 ^ (64 * i)) (by omega)
        unfold cmpI
        rw [if_pos this]
      have hhi : wordOf B i < wordOf A i → cmpI A B = 1 := fun h => by
        have : B < A := lt_of_div (d := 2 ^ (64 * i)) (by omega)
        unfold cmpI
        rw [if_neg (by omega), if_pos this]
      generalize wordOf A i = x at *
      generalize wordOf B i = y at *
      have j1 : (i : Int) < 4 := by omega
      have j2 : (0 : Int) ≤ (i : Int) := by omega
      have j3 : (i : Int) ≤ 3 := by omega
      clear hsA hsB ht
      go_wp2_with fail
      refine wp_region_still (by kernel_rfl) (by kernel_rfl) ?_
      repeat still_step
      refine wpStill_nil ?_
      by_cases h1 : x < y
      · have h1' : (x : Int) < (y : Int) := by omega
        have hres := hlo h1
        clear hlo hhi hnx
        go_wp2_with fail
        go_ret
        exact ⟨by rw [hres]; rfl, hW.drew⟩
      · have h1' : ¬ (x : Int) < (y : Int) := by omega
        clear hlo
        go_wp2_with fail
        refine wp_abs (fun W => W.cell? ⟨w.heap.size, i, none⟩ = some (.int .u64 (x : Nat)) ∧ W.cell? ⟨w.heap.size + 1, i, none⟩ = some (.int .u64 (y : Nat)) ∧ Holds_ W w.heap.size 24 (wordV (wordOf A)) ∧ Holds_ W (w.heap.size + 1) 24 (wordV (wordOf B)) ∧ Below w.heap.size w W) ⟨c1, c2, hWA.drew, hWB.drew, hW.drew⟩ ?_
        clear c1 c2 hWA hWB hW
        rintro W ⟨c1, c2, hWA, hWB, hW⟩
        refine wp_region_still (by kernel_rfl) (by kernel_rfl) ?_
        repeat still_step
        refine wpStill_nil ?_
        by_cases h2 : y < x
        · have h2' : (y : Int) < (x : Int) := by omega
          have hres := hhi h2
          clear hhi hnx
          go_wp2_with fail
          go_ret
          exact ⟨by rw [hres]; rfl, hW.drew⟩
        · have h2' : ¬ (y : Int) < (x : Int) := by omega
          have hn2 := hnx (by omega)
          clear hhi hnx
          go_wp2_with fail
          go_roundw
          case rel => exact ⟨k + 1, by omega, by rw [← hii]; first | done | go_num, hn2, hWA.drew, hWB.drew, hW.drew⟩
          case measure => simp [intOf] <;> omega
    · obtain rfl : k = 4 := by omega
      have he : A = B := by simpa using ht
      have hres : cmpI A B = 0 := by unfold cmpI; rw [he, if_neg (by omega), if_neg (by omega)]
      clear ht
      go_wp2_with fail
      go_ret
      exact ⟨by rw [hres]; rfl, hW⟩
end Go.Proofs.YtkgbecgdappjoaaDoor
