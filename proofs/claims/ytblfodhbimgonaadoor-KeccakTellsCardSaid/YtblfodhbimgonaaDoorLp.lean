/- KeccakApart, by its walk. -/
import Derived.Test.YtblfodhbimgonaaDoorWz
import Derived.Test.YtblfodhbimgonaaDoorKecP
namespace Go.Proofs.YtblfodhbimgonaaDoor
open Go.RowKit Go.Shelf
set_option linter.unusedVariables false
set_option linter.unusedSimpArgs false

theorem pick_nat (c : Int) (n : Nat) (w : World) (hn : 1 ≤ n) (hn2 : n ≤ 1000000) (hc : -9223372036854775808 ≤ c) (hc2 : c ≤ 9223372036854775807) :
    ∃ k : Nat, k < n ∧ ∀ w, Calls Tryd.prog 13 #[.int .i64 c, .int .i64 n] w fun e W' => e = .returned (.int .i64 k) ∧ w = W' := by
  have hb := pickS_bd c n (by omega)
  refine ⟨(pickS c n).toNat, by omega, fun w => ?_⟩
  rw [show (((pickS c n).toNat : Nat) : Int) = pickS c n from by omega]
  exact pick_any c n w (by omega) (by omega) hc hc2

set_option maxRecDepth 100000 in
set_option maxHeartbeats 4000000 in
theorem apart_true (m n : Int) (hm : -9223372036854775808 ≤ m ∧ m ≤ 9223372036854775807) (hn : -9223372036854775808 ≤ n ∧ n ≤ 9223372036854775807) (w : World) (hT : Table w) :
    Calls Tryd.prog 9 #[.int .i64 m, .int .i64 n] w fun e W' => e = .returned (.bool true) ∧ Below w.heap.size w W' := by
  obtain ⟨a, ha, Ha⟩ := pick_nat m 700 w (by omega) (by omega) hm.1 hm.2
  obtain ⟨b, hb, Hb⟩ := pick_nat n 700 w (by omega) (by omega) hn.1 hn.2
  go_enter Tryd.func9, Tryd.ntmps9
  go_wp2_with fail
  refine (awake_any w hT).mono ?_
  rintro e w1 ⟨rfl, hb1⟩
  go_wp2_with fail
  refine (Ha _).mono ?_
  rintro e w2 ⟨rfl, rfl⟩
  go_wp2_with fail
  refine (Hb _).mono ?_
  rintro e w2 ⟨rfl, rfl⟩
  have hmk := run_zeros a (by omega)
  have hst := run_zstring a (by omega)
  go_wp2_with fail
  have hla : (List.replicate a (0 : UInt8)).length = a := List.length_replicate
  have hlb : (List.replicate b (0 : UInt8)).length = b := List.length_replicate
  have hp1 := Kec.padL_full (List.replicate a 0)
  have hp2 := Kec.padL_last (List.replicate a 0)
  have hp3 := Kec.padL_one (List.replicate a 0)
  have hq1 := Kec.padL_full (List.replicate b 0)
  have hpq : Kec.padL (List.replicate a 0) = Kec.padL (List.replicate b 0) ↔ a = b := ⟨fun h => by have := congrArg List.length (Kec.padL_inj h); omega, fun h => by rw [h]⟩
  rw [hla] at hp1 hp2 hp3
  rw [hlb] at hq1
  have Hpa := pad_str (List.replicate a 0) (by omega)
  have Hpb := pad_str (List.replicate b 0) (by omega)
  generalize Kec.padL (List.replicate a 0) = pa at *
  generalize Kec.padL (List.replicate b 0) = pb at *
  refine (Hpa _).mono ?_
  rintro e w2 ⟨rfl, hb2⟩
  have hB2 : Below w.heap.size w w2 := (hb1.alloc hb1.size _).trans (hb2.mono (by have := hb1.size; simp; omega))
  clear hmk hst
  have hmk := run_zeros b (by omega)
  have hst := run_zstring b (by omega)
  go_wp2_with fail
  refine (Hpb _).mono ?_
  rintro e w3 ⟨rfl, hb3⟩
  have hB3 : Below w.heap.size w w3 := (hB2.alloc hB2.size _).trans (hb3.mono (by have := hB2.size; simp; omega))
  clear hmk hst hb1 hb2 hb3 hB2
  have s1 : (str pa).size = 136 * (a / 136 + 1) := hp1
  have s2 : (str pb).size = 136 * (b / 136 + 1) := hq1
  have s3 : ((str pa).toList == (str pb).toList) = decide (a = b) := by rw [str_toList, str_toList, Bool.eq_iff_iff, beq_iff_eq, decide_eq_true_iff]; exact hpq
  have s4 : ((a : Int) == (b : Int)) = decide (a = b) := by rw [Bool.eq_iff_iff, beq_iff_eq, decide_eq_true_iff]; omega
  obtain ⟨qa, hqa⟩ : ∃ q, a / 136 = q := ⟨_, rfl⟩
  obtain ⟨qb, hqb⟩ : ∃ q, b / 136 = q := ⟨_, rfl⟩
  have d1 : (a : Int) / 136 = (qa : Int) := by omega
  have d2 : (b : Int) / 136 = (qb : Int) := by omega
  rw [hqa] at s1
  rw [hqb] at s2
  have hqa6 : qa ≤ 6 := by omega
  have hqb6 : qb ≤ 6 := by omega
  have ha1 : a < pa.length := by omega
  clear Ha Hb Hpa Hpb
  have hl1 : pa.length - 1 = 136 * (qa + 1) - 1 := by omega
  have x1 : 136 * (qa + 1) - 1 < (str pa).size := by omega
  have x2 : a < (str pa).size := by omega
  rw [hl1, ← str_getD pa _ x1] at hp2
  rw [← str_getD pa _ x2] at hp3
  by_cases h135 : a % 136 = 135
  · have d3 : ((a : Int) % 136 == 135) = true := by rw [beq_iff_eq]; omega
    rw [if_pos h135] at hp2
    rw [if_pos ((Kec.padN_zero a).2 h135)] at hp3
    have e1 : (((str pa)[136 * (qa + 1) - 1]'x1).toNat : Int) = 129 := by rw [hp2]; rfl
    have e2 : (((str pa)[a]'x2).toNat : Int) = 129 := by rw [hp3]; rfl
    have e3 : bits .and .u8 129 1 = 1 := by decide
    clear hp2 hp3 hp1
    go_wp2_with fail
    go_ret
    exact ⟨rfl, hB3⟩
  · have d3 : ((a : Int) % 136 == 135) = false := by rw [beq_eq_false_iff_ne]; omega
    rw [if_neg h135] at hp2
    rw [if_neg (fun h => h135 ((Kec.padN_zero a).1 h))] at hp3
    have e1 : (((str pa)[136 * (qa + 1) - 1]'x1).toNat : Int) = 128 := by rw [hp2]; rfl
    have e2 : (((str pa)[a]'x2).toNat : Int) = 1 := by rw [hp3]; rfl
    have e3 : bits .and .u8 1 1 = 1 := by decide
    clear hp2 hp3 hp1
    go_wp2_with fail
    go_ret
    exact ⟨rfl, hB3⟩
end Go.Proofs.YtblfodhbimgonaaDoor
