/- ShaCosts and ShaAgain, by their walks. -/
import Derived.Test.YtkgbecgdappjoaaDoorWi
namespace Go.Proofs.YtkgbecgdappjoaaDoor
open Go.RowKit Go.Shelf
set_option linter.unusedVariables false
set_option linter.unusedSimpArgs false

theorem costs_2 (n : Nat) (hn : n ≤ 1048576) (c : Int) (hc : 60 + 12 * (((n : Int) + 31) / 32) = c) (w : World) :
    Calls Tryd.prog 13 #[.agg (wordV (ofN 2)), .int .i64 n] w fun e W' => e = .returned (.tuple #[.int .i64 c, .bool true]) ∧ Below w.heap.size w W' := by
  have h := cost_any (ofN 2) n (by omega) (by omega) w
  rw [costB_2 _ hn, costI_2 _ hn, hc] at h
  exact h
theorem costs_4 (n : Nat) (hn : n ≤ 1048576) (c : Int) (hc : 15 + 3 * (((n : Int) + 31) / 32) = c) (w : World) :
    Calls Tryd.prog 13 #[.agg (wordV (ofN 4)), .int .i64 n] w fun e W' => e = .returned (.tuple #[.int .i64 c, .bool true]) ∧ Below w.heap.size w W' := by
  have h := cost_any (ofN 4) n (by omega) (by omega) w
  rw [costB_4 _ hn, costI_4 _ hn, hc] at h
  exact h

set_option maxRecDepth 100000 in
set_option maxHeartbeats 4000000 in
theorem costs_true (many : Int) (hm : -9223372036854775808 ≤ many) (hm2 : many ≤ 9223372036854775807) (w : World) (hT : Table w) :
    Calls Tryd.prog 5 #[.int .i64 many] w fun e W' => e = .returned (.bool true) ∧ Below w.heap.size w W' := by
  obtain ⟨n, hn, hpick⟩ := pick_nat many 90000 w (by decide) (by decide) hm hm2
  have hpick' : ∀ w, Calls Tryd.prog 9 #[.int .i64 many, .int .i64 90000] w fun e W' => e = .returned (.int .i64 n) ∧ w = W' := hpick
  obtain ⟨a, ha⟩ : ∃ a, 60 + 12 * (((n : Int) + 31) / 32) = a := ⟨_, rfl⟩
  obtain ⟨b, hb⟩ : ∃ b, 60 + 12 * ((((n + 1 : Nat) : Int) + 31) / 32) = b := ⟨_, rfl⟩
  obtain ⟨c, hc⟩ : ∃ c, 15 + 3 * (((n : Int) + 31) / 32) = c := ⟨_, rfl⟩
  obtain ⟨d, hd⟩ : ∃ d, 60 + 12 * ((((n + 32 : Nat) : Int) + 31) / 32) = d := ⟨_, rfl⟩
  have Ca := costs_2 n (by omega) a ha
  have Cb := costs_2 (n + 1) (by omega) b hb
  have Cc := costs_4 n (by omega) c hc
  have Cd := costs_2 (n + 32) (by omega) d hd
  obtain ⟨t1, ht1⟩ : ∃ t, a - 60 = t := ⟨_, rfl⟩
  obtain ⟨t2, ht2⟩ : ∃ t, c - 15 = t := ⟨_, rfl⟩
  have i1 : IntKind.i64.wrap ((n : Int) + 1) = ((n + 1 : Nat) : Int) := (IntWalk.i64_in _ (by omega)).trans (by omega)
  have i2 : IntKind.i64.wrap ((n : Int) + 32) = ((n + 32 : Nat) : Int) := (IntWalk.i64_in _ (by omega)).trans (by omega)
  have j1 : IntKind.i64.wrap (d - a) = 12 := (IntWalk.i64_in _ (by omega)).trans (by omega)
  have j2 : IntKind.i64.wrap (a - 60) = t1 := (IntWalk.i64_in _ (by omega)).trans (by omega)
  have j3 : IntKind.i64.wrap (c - 15) = t2 := (IntWalk.i64_in _ (by omega)).trans (by omega)
  have j4 : IntKind.i64.wrap (4 * t2) = t1 := (IntWalk.i64_in _ (by omega)).trans (by omega)
  have hr2 := ref_of 2 (by decide)
  have hr4 := ref_of 4 (by decide)
  have hr2' : ∀ w, Calls Tryd.prog 12 #[.int .i64 2] w fun e W' => e = .returned (.agg (wordV (ofN 2))) ∧ Below w.heap.size w W' := hr2
  have hr4' : ∀ w, Calls Tryd.prog 12 #[.int .i64 4] w fun e W' => e = .returned (.agg (wordV (ofN 4))) ∧ Below w.heap.size w W' := hr4
  obtain ⟨st, hst⟩ : ∃ st : Int, st = if n % 32 = 0 then 12 else 0 := ⟨_, rfl⟩
  have j5 : IntKind.i64.wrap (b - a) = st := by
    refine (IntWalk.i64_in _ (by omega)).trans ?_
    rw [hst]
    split <;> omega
  generalize ofN 2 = f2 at *
  generalize ofN 4 = f4 at *
  obtain ⟨n1, hn1⟩ : ∃ m, n + 1 = m := ⟨_, rfl⟩
  obtain ⟨n32, hn32⟩ : ∃ m, n + 32 = m := ⟨_, rfl⟩
  rw [hn1] at Cb i1
  rw [hn32] at Cd i2
  clear ha hb hc hd ht1 ht2 hpick hr2 hr4 hn1 hn32
  by_cases h32 : n % 32 = 0
  · rw [if_pos h32] at hst
    subst hst
    have hz : ((n : Int) % 32 == 0) = true := by rw [beq_iff_eq]; omega
    clear h32
    go_enter Tryd.func5, Tryd.ntmps5
    go_wp2_with fail
    refine (awake_any w hT).mono ?_
    rintro e w1 ⟨rfl, B1⟩
    go_wp2_with fail
    refine (hpick' _).mono ?_
    rintro e w2 ⟨rfl, rfl⟩
    go_wp2_with fail
    refine (hr2' _).mono ?_
    rintro e w2 ⟨rfl, hb2⟩
    have B2 := B1.trans (hb2.mono B1.size)
    clear B1 hb2
    go_wp2_with fail
    refine (Ca _).mono ?_
    rintro e w3 ⟨rfl, hb3⟩
    have B3 := B2.trans (hb3.mono B2.size)
    clear B2 hb3
    go_wp2_with fail
    refine (hr2' _).mono ?_
    rintro e w4 ⟨rfl, hb4⟩
    have B4 := B3.trans (hb4.mono B3.size)
    clear B3 hb4
    go_wp2_with fail
    refine (Cb _).mono ?_
    rintro e w5 ⟨rfl, hb5⟩
    have B5 := B4.trans (hb5.mono B4.size)
    clear B4 hb5
    go_wp2_with fail
    refine (hr4' _).mono ?_
    rintro e w6 ⟨rfl, hb6⟩
    have B6 := B5.trans (hb6.mono B5.size)
    clear B5 hb6
    go_wp2_with fail
    refine (Cc _).mono ?_
    rintro e w7 ⟨rfl, hb7⟩
    have B7 := B6.trans (hb7.mono B6.size)
    clear B6 hb7
    go_wp2_with fail
    refine (hr2' _).mono ?_
    rintro e w8 ⟨rfl, hb8⟩
    have B8 := B7.trans (hb8.mono B7.size)
    clear B7 hb8
    go_wp2_with fail
    refine (Cd _).mono ?_
    rintro e w9 ⟨rfl, hb9⟩
    have B9 := B8.trans (hb9.mono B8.size)
    clear B8 hb9
    go_wp2_with fail
    go_ret
    exact ⟨rfl, B9⟩
  · rw [if_neg h32] at hst
    subst hst
    have hz : ((n : Int) % 32 == 0) = false := by rw [beq_eq_false_iff_ne]; omega
    clear h32
    go_enter Tryd.func5, Tryd.ntmps5
    go_wp2_with fail
    refine (awake_any w hT).mono ?_
    rintro e w1 ⟨rfl, B1⟩
    go_wp2_with fail
    refine (hpick' _).mono ?_
    rintro e w2 ⟨rfl, rfl⟩
    go_wp2_with fail
    refine (hr2' _).mono ?_
    rintro e w2 ⟨rfl, hb2⟩
    have B2 := B1.trans (hb2.mono B1.size)
    clear B1 hb2
    go_wp2_with fail
    refine (Ca _).mono ?_
    rintro e w3 ⟨rfl, hb3⟩
    have B3 := B2.trans (hb3.mono B2.size)
    clear B2 hb3
    go_wp2_with fail
    refine (hr2' _).mono ?_
    rintro e w4 ⟨rfl, hb4⟩
    have B4 := B3.trans (hb4.mono B3.size)
    clear B3 hb4
    go_wp2_with fail
    refine (Cb _).mono ?_
    rintro e w5 ⟨rfl, hb5⟩
    have B5 := B4.trans (hb5.mono B4.size)
    clear B4 hb5
    go_wp2_with fail
    refine (hr4' _).mono ?_
    rintro e w6 ⟨rfl, hb6⟩
    have B6 := B5.trans (hb6.mono B5.size)
    clear B5 hb6
    go_wp2_with fail
    refine (Cc _).mono ?_
    rintro e w7 ⟨rfl, hb7⟩
    have B7 := B6.trans (hb7.mono B6.size)
    clear B6 hb7
    go_wp2_with fail
    refine (hr2' _).mono ?_
    rintro e w8 ⟨rfl, hb8⟩
    have B8 := B7.trans (hb8.mono B7.size)
    clear B7 hb8
    go_wp2_with fail
    refine (Cd _).mono ?_
    rintro e w9 ⟨rfl, hb9⟩
    have B9 := B8.trans (hb9.mono B8.size)
    clear B8 hb9
    go_wp2_with fail
    go_ret
    exact ⟨rfl, B9⟩
end Go.Proofs.YtkgbecgdappjoaaDoor
