/- KeccakLong, by its walk. -/
import Derived.Test.YtblfodhbimgonaaDoorLp
import Derived.Test.YtblfodhbimgonaaDoorKecLa
import Derived.Test.YtblfodhbimgonaaDoorKecLb
import Derived.Test.YtblfodhbimgonaaDoorKecLc
import Derived.Test.YtblfodhbimgonaaDoorKecLd
namespace Go.Proofs.YtblfodhbimgonaaDoor
open Go.RowKit Go.Shelf
set_option linter.unusedVariables false
set_option linter.unusedSimpArgs false

theorem zeros_unlike (k : Nat) (hk : k < 300) : Kec.zerosK k ≠ Kec.zerosK (k + 1) := by
  have far : ∀ n s, Kec.adjS n s = true → s ≤ k → k < s + n → Kec.zerosK k ≠ Kec.zerosK (k + 1) := fun n s h h1 h2 => by
    have := Kec.adjS_ne n s h (k - s) (by omega)
    rwa [show s + (k - s) = k from by omega] at this
  by_cases h1 : k < 100
  · exact far _ _ Kec.adj_0 (by omega) (by omega)
  by_cases h2 : k < 140
  · exact far _ _ Kec.adj_100 (by omega) (by omega)
  by_cases h3 : k < 180
  · exact far _ _ Kec.adj_140 (by omega) (by omega)
  by_cases h4 : k < 220
  · exact far _ _ Kec.adj_180 (by omega) (by omega)
  by_cases h5 : k < 260
  · exact far _ _ Kec.adj_220 (by omega) (by omega)
  by_cases h6 : k < 280
  · exact far _ _ Kec.adj_260 (by omega) (by omega)
  · exact far _ _ Kec.adj_280 (by omega) (by omega)

set_option maxRecDepth 100000 in
set_option maxHeartbeats 4000000 in
theorem long_of (H : ∀ k, k < 300 → Kec.zerosK k ≠ Kec.zerosK (k + 1)) (n : Int) (hn : -9223372036854775808 ≤ n ∧ n ≤ 9223372036854775807) (w : World) (hT : Table w) :
    Calls Tryd.prog 7 #[.int .i64 n] w fun e W' => e = .returned (.bool true) ∧ Below w.heap.size w W' := by
  obtain ⟨k, hk, Hk⟩ := pick_nat n 300 w (by omega) (by omega) hn.1 hn.2
  obtain ⟨N, hN⟩ : ∃ N : Nat, 1048577 + k = N := ⟨_, rfl⟩
  have hNi : (1048577 : Int) + (k : Int) = (N : Int) := by omega
  have hmk := run_zeros N (by omega)
  have hst := run_zstring N (by omega)
  have hsz : (str (List.replicate N 0)).size = N := by rw [str_size, List.length_replicate]
  have c1 : (str (List.replicate N 0)).extract 0 k = str (List.replicate k 0) := by rw [str_cut, List.take_replicate, show min k N = k from by omega]
  have c2 : (str (List.replicate N 0)).extract 0 (k + 1) = str (List.replicate (k + 1) 0) := by rw [str_cut, List.take_replicate, show min (k + 1) N = k + 1 from by omega]
  have hlong := fun w => sum_long (str (List.replicate N 0)) (by omega) (by omega) w
  have ha := fun w hT => sum_str (List.replicate k 0) (by rw [List.length_replicate]; omega) w hT
  have hb := fun w hT => sum_str (List.replicate (k + 1) 0) (by rw [List.length_replicate]; omega) w hT
  have la := Kec.sumL_length (List.replicate k 0)
  have lb := Kec.sumL_length (List.replicate (k + 1) 0)
  have hne : Kec.sumL (List.replicate k 0) ≠ Kec.sumL (List.replicate (k + 1) 0) := fun h => H k hk (Kec.sum_lane h)
  generalize Kec.sumL (List.replicate k 0) = A at *
  generalize Kec.sumL (List.replicate (k + 1) 0) = B at *
  generalize str (List.replicate k 0) = SA at *
  generalize str (List.replicate (k + 1) 0) = SB at *
  generalize str (List.replicate N 0) = S at *
  generalize (bytesV (List.replicate N 0)).toArray = CC at *
  have f1 : (str A).size = 32 := la
  have f2 : (str B).size = 32 := lb
  have f3 : ((str A).toList == (str B).toList) = false := by rw [str_toList, str_toList, beq_eq_false_iff_ne]; exact hne
  have f4 : (k : Int) ≤ (N : Int) := by omega
  have f5 : (k : Int) + 1 ≤ (N : Int) := by omega
  clear la lb hne H
  go_enter Tryd.func7, Tryd.ntmps7
  go_wp2_with fail
  refine (awake_any w hT).mono ?_
  rintro e w1 ⟨rfl, hb1⟩
  go_wp2_with fail
  refine (Hk _).mono ?_
  rintro e w2 ⟨rfl, rfl⟩
  go_wp2_with fail
  refine (hlong _).mono ?_
  rintro e w2 ⟨rfl, rfl⟩
  have hB1 : Below w.heap.size w (w1.alloc (.cells CC 5)) := hb1.alloc hb1.size _
  go_wp2_with fail
  refine (ha _ (hT.below hB1)).mono ?_
  rintro e w2 ⟨rfl, hb2⟩
  have hB2 := hB1.trans (hb2.mono hB1.size)
  go_wp2_with fail
  refine (hb _ (hT.below hB2)).mono ?_
  rintro e w3 ⟨rfl, hb3⟩
  have hB3 := hB2.trans (hb3.mono hB2.size)
  clear hb2 hb3 hB1 hB2 ha hb hlong hmk hst Hk
  go_wp2_with fail
  go_ret
  exact ⟨rfl, hB3⟩
theorem long_true (n : Int) (hn : -9223372036854775808 ≤ n ∧ n ≤ 9223372036854775807) (w : World) (hT : Table w) :
    Calls Tryd.prog 7 #[.int .i64 n] w fun e W' => e = .returned (.bool true) ∧ Below w.heap.size w W' := long_of zeros_unlike n hn w hT
end Go.Proofs.YtblfodhbimgonaaDoor
