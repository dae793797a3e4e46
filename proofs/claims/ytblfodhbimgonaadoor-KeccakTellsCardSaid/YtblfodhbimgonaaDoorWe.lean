/- turn and Permute, by their walks. -/
import Derived.Test.YtblfodhbimgonaaDoorWd
namespace Go.Proofs.YtblfodhbimgonaaDoor
open Go.RowKit Go.Shelf
set_option linter.unusedVariables false
set_option linter.unusedSimpArgs false

set_option maxRecDepth 100000 in
set_option maxHeartbeats 2000000 in
theorem turn_any (a : Nat → Nat) (ha : Kec.Ok a) (w : World) :
    Calls Tryd.prog 19 #[.agg (lanesV a)] w fun e W' => e = .returned (.agg (lanesV (Kec.turn a))) ∧ Below w.heap.size w W' := by
  have hi0 : (lanesV a)[0]? = some (.int .u64 (a 0 : Nat)) := row_get _ _ _ _ (by omega)
  go_enter Tryd.func19, Tryd.ntmps19
  go_wp2
  refine wp_abs (fun W => Holds_ W w.heap.size 24 (lanesV a) ∧ Holds_ W (w.heap.size + 1) 24 (lanesV (Kec.turnTo a 0)) ∧ Below w.heap.size w W) ?f0 ?g0
  case f0 =>
    have h0 := Holds_.new w 24 (lanesV a)
    have h1 := Holds_.new (w.alloc (.cells (lanesV a) 24)) 24 (lanesV (Kec.turnTo a 0))
    simp only [World.size_alloc] at h1
    exact ⟨h0.alloc _, h1, ((Below.refl _ _).alloc (Nat.le_refl _) _).alloc (by simp) _⟩
  rintro W1 ⟨hA, hR, hB⟩
  have hl1 := hR.lt
  go_loopw [3, 4, 10] (fun x y t wr => ∃ k : Nat, k ≤ 24 ∧ t = .int .i64 k ∧ x = .int .i64 ((Kec.xy k).1 : Nat) ∧ y = .int .i64 ((Kec.xy k).2 : Nat) ∧ Holds_ wr w.heap.size 24 (lanesV a) ∧ Holds_ wr (w.heap.size + 1) 24 (lanesV (Kec.turnTo a k)) ∧ Below w.heap.size w wr)
    (fun _ _ t _ => 24 - (intOf t).toNat)
  case atStart => exact ⟨0, by omega, rfl, rfl, rfl, hA, hR, hB⟩
  case round =>
    obtain ⟨k, hk, rfl, rfl, rfl, hA, hR, hB⟩ := hrel
    by_cases hlt : k < 24
    · obtain ⟨hx5, hy5⟩ := Kec.xy_lt k
      have hT : Kec.turnTo a (k + 1) = Kec.upd (Kec.turnTo a k) (Kec.lane (Kec.xy k).2 ((2 * (Kec.xy k).1 + 3 * (Kec.xy k).2) % 5)) (Kec.rotl (a (Kec.lane (Kec.xy k).1 (Kec.xy k).2)) ((k + 1) * (k + 2) / 2 % 64)) := rfl
      have hX : Kec.xy (k + 1) = ((Kec.xy k).2, (2 * (Kec.xy k).1 + 3 * (Kec.xy k).2) % 5) := rfl
      have HT := Lib.hid hT
      have HX := Lib.hid hX
      clear hT hX
      generalize (Kec.xy k).1 = x at *
      generalize (Kec.xy k).2 = y at *
      obtain ⟨n, hn⟩ : ∃ n, (2 * x + 3 * y) % 5 = n := ⟨_, rfl⟩
      obtain ⟨m, hm⟩ : ∃ m, (k + 1) * (k + 2) = m := ⟨_, rfl⟩
      obtain ⟨i, hi⟩ : ∃ i, Kec.lane x y = i := ⟨_, rfl⟩
      obtain ⟨j, hj⟩ : ∃ j, Kec.lane y n = j := ⟨_, rfl⟩
      have hn5 : (n : Int) < 5 := by omega
      have hm2 : (m : Int) ≤ 600 := by
        have : (k + 1) * (k + 2) ≤ 24 * 25 := Nat.mul_le_mul (by omega) (by omega)
        omega
      have hi5 : (i : Int) < 25 := by have := Kec.lane_lt x y; omega
      have hj5 : (j : Int) < 25 := by have := Kec.lane_lt y n; omega
      have Hi := laneG_any i x y hi (by omega) (by omega)
      have Hj := laneG_any j y n hj (by omega) (by omega)
      have Hr := fun W => rotl_any (a i) ((m : Int) / 2) W (ha i (by omega)) (by omega) (by omega)
      have w1 : (2 * (x : Int) + 3 * (y : Int)) % 5 = (n : Int) := by omega
      have w2 : ((k : Int) + 1) * ((k : Int) + 2) = (m : Int) := by rw [← hm]; simp
      have Hn := Lib.hid hn
      have Hm := Lib.hid hm
      have HI := Lib.hid hi
      have HJ := Lib.hid hj
      clear hn hm hi hj
      have hc1 : wr.cell? ⟨w.heap.size, i, none⟩ = some (.int .u64 (a i : Nat)) := (hA.cell _).trans (row_get _ _ _ _ (by omega))
      have hc2 : wr.cell? ⟨w.heap.size + 1, j, none⟩ = some (.int .u64 (Kec.turnTo a k j : Nat)) := (hR.cell _).trans (row_get _ _ _ _ (by omega))
      have hf1 : wr.frozen? ⟨w.heap.size + 1, j, none⟩ = false := hR.free _
      go_wp2_with fail
      refine (Hj _).mono ?_
      rintro e w' ⟨rfl, rfl⟩
      go_wp2_with fail
      refine (Hi _).mono ?_
      rintro e w' ⟨rfl, rfl⟩
      go_wp2_with fail
      refine (Hr _).mono ?_
      rintro e w' ⟨rfl, rfl⟩
      go_wp2_with fail
      refine ⟨⟨k + 1, by omega, by go_num, by rw [HX.out], by rw [HX.out, Hn.out], ?_, ?_, ?_⟩, by simp [intOf]; omega⟩
      · exact hA.far (p := ⟨w.heap.size + 1, j, none⟩) (by simp) _
      · rw [HT.out, Hn.out, HI.out, HJ.out, Hm.out]
        exact hR.putN j _ (by omega)
      · exact hB.setCell (p := ⟨w.heap.size + 1, j, none⟩) (by simp) _
    · obtain rfl : k = 24 := by omega
      go_wp2_with (first
        | (with_reducible show wpList _ _ _ (⟨some 38, _, _, _, _, _⟩ :: _) _ _; refine wpList_loadRow rfl 24 _ rfl (w.heap.size + 1) rfl 24 _ _ hR Tryd.underlying24 rfl (by rw [row_size]; exact info24) ?_)
        | (with_reducible show wpList _ _ _ (⟨none, _, _, _, _, _⟩ :: _) _ _; refine wpList_storeRow rfl 24 _ _ rfl (w.heap.size + 1) _ rfl rfl 24 _ hR (by rw [row_size]; exact info24) (by simp [row_size]) (row_one _ _ _) ?_))
      have hR2 := hR.putRow (lanesV (Kec.turn a))
      exact bodyPost_ret (results_cell_row rfl _ _ (w.heap.size + 1) 24 _ (0, 0) _ rfl hR2 Tryd.underlying24 rfl (by rw [row_size]; exact info24)) rfl ⟨rfl, below_putRow hB (by omega) _⟩
end Go.Proofs.YtblfodhbimgonaaDoor
