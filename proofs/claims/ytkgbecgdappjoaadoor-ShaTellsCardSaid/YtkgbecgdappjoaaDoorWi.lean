/- awake, by its walk. -/
import Derived.Test.YtkgbecgdappjoaaDoorWh
import Derived.Test.YtkgbecgdappjoaaDoorShE
namespace Go.Proofs.YtkgbecgdappjoaaDoor
open Go.RowKit Go.Shelf
set_option linter.unusedVariables false
set_option linter.unusedSimpArgs false

theorem same22 : same4 (ofN 2) (ofN 2) = true := by decide +kernel
theorem same42 : same4 (ofN 4) (ofN 2) = false := by decide +kernel
theorem same44 : same4 (ofN 4) (ofN 4) = true := by decide +kernel
theorem same32 : same4 (ofN 3) (ofN 2) = false := by decide +kernel
theorem same34 : same4 (ofN 3) (ofN 4) = false := by decide +kernel
theorem costI_2 (n : Nat) (hn : n ≤ 1048576) : costI (ofN 2) n = 60 + 12 * (((n : Int) + 31) / 32) := by
  have : inB n = true := by unfold inB; simp; omega
  simp [costI, this, same22]
theorem costB_2 (n : Nat) (hn : n ≤ 1048576) : costB (ofN 2) n = true := by
  have : inB n = true := by unfold inB; simp; omega
  simp [costB, this, same22]
theorem costI_4 (n : Nat) (hn : n ≤ 1048576) : costI (ofN 4) n = 15 + 3 * (((n : Int) + 31) / 32) := by
  have : inB n = true := by unfold inB; simp; omega
  simp [costI, this, same42, same44]
theorem costB_4 (n : Nat) (hn : n ≤ 1048576) : costB (ofN 4) n = true := by
  have : inB n = true := by unfold inB; simp; omega
  simp [costB, this, same44]

/-- Run at 2 and at 4, where there is gas enough, and where there is not. -/
theorem runs_2 (l : List UInt8) (hl : l.length ≤ 1048576) (gas c : Int) (hc : 60 + 12 * (((l.length : Int) + 31) / 32) = c) (hg : -9223372036854775808 ≤ gas) (hg2 : gas ≤ 9223372036854775807) (hgo : c ≤ gas) (w : World) (hT : Table w) :
    Calls Tryd.prog 15 #[.agg (wordV (ofN 2)), .string (str l), .int .i64 gas] w fun e W' => e = .returned (.tuple #[.string (str (Sha.sumL l)), .int .i64 (gas - c), .bool true]) ∧ Below w.heap.size w W' := by
  have h := run_any (ofN 2) l (by omega) gas hg hg2 w hT
  have e : goesB (ofN 2) l gas = true := by simp [goesB, costB_2 _ hl, costI_2 _ hl, hc, hgo]
  rw [runL, runI, e, if_pos rfl, if_pos rfl, if_pos same22, costI_2 _ hl, hc] at h
  exact h
theorem runs_4 (l : List UInt8) (hl : l.length ≤ 1048576) (gas c : Int) (hc : 15 + 3 * (((l.length : Int) + 31) / 32) = c) (hg : -9223372036854775808 ≤ gas) (hg2 : gas ≤ 9223372036854775807) (hgo : c ≤ gas) (w : World) (hT : Table w) :
    Calls Tryd.prog 15 #[.agg (wordV (ofN 4)), .string (str l), .int .i64 gas] w fun e W' => e = .returned (.tuple #[.string (str l), .int .i64 (gas - c), .bool true]) ∧ Below w.heap.size w W' := by
  have h := run_any (ofN 4) l (by omega) gas hg hg2 w hT
  have e : goesB (ofN 4) l gas = true := by simp [goesB, costB_4 _ hl, costI_4 _ hl, hc, hgo]
  rw [runL, runI, e, if_pos rfl, if_pos rfl, if_neg (by rw [same42]; decide), costI_4 _ hl, hc] at h
  exact h
theorem stops_2 (l : List UInt8) (hl : l.length ≤ 1048576) (gas c : Int) (hc : 60 + 12 * (((l.length : Int) + 31) / 32) = c) (hg : -9223372036854775808 ≤ gas) (hg2 : gas ≤ 9223372036854775807) (hgo : gas < c) (w : World) (hT : Table w) :
    Calls Tryd.prog 15 #[.agg (wordV (ofN 2)), .string (str l), .int .i64 gas] w fun e W' => e = .returned (.tuple #[.string (str []), .int .i64 0, .bool false]) ∧ Below w.heap.size w W' := by
  have h := run_any (ofN 2) l (by omega) gas hg hg2 w hT
  have e : goesB (ofN 2) l gas = false := by simp [goesB, costB_2 _ hl, costI_2 _ hl, hc, hgo]
  rw [runL, runI, e, if_neg (by decide), if_neg (by decide)] at h
  exact h
theorem stops_4 (l : List UInt8) (hl : l.length ≤ 1048576) (gas c : Int) (hc : 15 + 3 * (((l.length : Int) + 31) / 32) = c) (hg : -9223372036854775808 ≤ gas) (hg2 : gas ≤ 9223372036854775807) (hgo : gas < c) (w : World) (hT : Table w) :
    Calls Tryd.prog 15 #[.agg (wordV (ofN 4)), .string (str l), .int .i64 gas] w fun e W' => e = .returned (.tuple #[.string (str []), .int .i64 0, .bool false]) ∧ Below w.heap.size w W' := by
  have h := run_any (ofN 4) l (by omega) gas hg hg2 w hT
  have e : goesB (ofN 4) l gas = false := by simp [goesB, costB_4 _ hl, costI_4 _ hl, hc, hgo]
  rw [runL, runI, e, if_neg (by decide), if_neg (by decide)] at h
  exact h
theorem Table.later {w W : World} (h : Table w) (hb : Below w.heap.size w W) : Table W := h.below hb h.pos

set_option maxRecDepth 100000 in
set_option maxHeartbeats 4000000 in
theorem awake_any (w : World) (hT : Table w) :
    Calls Tryd.prog 8 #[] w fun e W' => e = .returned (.bool true) ∧ Below w.heap.size w W' := by
  go_enter Tryd.func8, Tryd.ntmps8
  go_wp2_with fail
  refine (sum_str [] (by decide) w hT).mono ?_
  rintro e w1 ⟨rfl, hb1⟩
  have hT1 := hT.later hb1
  have ha1 : (str (Sha.sumL [])).size = 32 := Sha.sumL_length _
  have ha2 : (str (Sha.sumL [])).extract 0 6 = ⟨#[227, 176, 196, 66, 152, 252]⟩ := by rw [str_cut, Sha.sum_nil]; rfl
  generalize str (Sha.sumL []) = A at *
  go_wp2_with fail
  refine (sum_str [97, 98, 99] (by decide) w1 hT1).mono ?_
  rintro e w2 ⟨rfl, hb2⟩
  have hT2 := hT1.later hb2
  have hB2 := hb1.trans (hb2.mono hb1.size)
  have hr2 := fun w hT => runs_2 [97, 98, 99] (by decide) 100 72 (by decide) (by decide) (by decide) (by decide) w hT
  have hc1 : (str (Sha.sumL [97, 98, 99])).size = 32 := Sha.sumL_length _
  have hc2 : (str (Sha.sumL [97, 98, 99])).extract 0 6 = ⟨#[186, 120, 22, 191, 143, 1]⟩ := by rw [str_cut, Sha.sum_abc]; rfl
  generalize str (Sha.sumL [97, 98, 99]) = B at *
  clear hb1 hb2 hT1
  go_wp2_with fail
  refine (ref_of 4 (by decide) _).mono ?_
  rintro e w3 ⟨rfl, hb3⟩
  have hT3 := hT2.later hb3
  have hB3 := hB2.trans (hb3.mono hB2.size)
  clear hb3 hT2 hB2
  go_wp2_with fail
  refine (runs_4 [104, 101, 108, 108, 111] (by decide) 20 18 (by decide) (by decide) (by decide) (by decide) w3 hT3).mono ?_
  rintro e w4 ⟨rfl, hb4⟩
  have hT4 := hT3.later hb4
  have hB4 := hB3.trans (hb4.mono hB3.size)
  clear hb4 hT3 hB3
  have hh : str [104, 101, 108, 108, 111] = ⟨#[104, 101, 108, 108, 111]⟩ := rfl
  rw [hh]
  go_wp2_with fail
  refine (ref_of 2 (by decide) _).mono ?_
  rintro e w5 ⟨rfl, hb5⟩
  have hT5 := hT4.later hb5
  have hB5 := hB4.trans (hb5.mono hB4.size)
  clear hb5 hT4 hB4
  go_wp2_with fail
  refine (hr2 w5 hT5).mono ?_
  rintro e w6 ⟨rfl, hb6⟩
  have hT6 := hT5.later hb6
  have hB6 := hB5.trans (hb6.mono hB5.size)
  clear hb6 hT5 hB5
  go_wp2_with fail
  refine (ref_of 2 (by decide) _).mono ?_
  rintro e w7 ⟨rfl, hb7⟩
  have hT7 := hT6.later hb7
  have hB7 := hB6.trans (hb7.mono hB6.size)
  clear hb7 hT6 hB6
  go_wp2_with fail
  refine (stops_2 [97, 98, 99] (by decide) 71 72 (by decide) (by decide) (by decide) (by decide) w7 hT7).mono ?_
  rintro e w8 ⟨rfl, hb8⟩
  have hT8 := hT7.later hb8
  have hB8 := hB7.trans (hb8.mono hB7.size)
  clear hb8 hT7 hB7
  go_wp2_with fail
  refine (ref_of 3 (by decide) _).mono ?_
  rintro e w9 ⟨rfl, hb9⟩
  have hT9 := hT8.later hb9
  have hB9 := hB8.trans (hb9.mono hB8.size)
  clear hb9 hT8 hB8
  go_wp2_with fail
  have hcost := cost_any (ofN 3) 5 (by decide) (by decide) w9
  rw [show costB (ofN 3) 5 = false from by simp [costB, same32, same34]] at hcost
  refine hcost.mono ?_
  rintro e w10 ⟨rfl, hb10⟩
  have hB10 := hB9.trans (hb10.mono hB9.size)
  clear hb10 hT9 hB9 hcost
  generalize costI (ofN 3) 5 = z
  go_wp2_with fail
  go_ret
  exact ⟨rfl, hB10⟩
end Go.Proofs.YtkgbecgdappjoaaDoor
