/- ShaLeft, by its walk. -/
import Derived.Test.YtkgbecgdappjoaaDoorLc
namespace Go.Proofs.YtkgbecgdappjoaaDoor
open Go.RowKit Go.Shelf
set_option linter.unusedVariables false
set_option linter.unusedSimpArgs false

/-- What Run tells at 2 and at 4, in one breath: goes or not. -/
theorem runs_at2 (l : List UInt8) (hl : l.length ≤ 1048576) (gas c : Int) (hc : 60 + 12 * (((l.length : Int) + 31) / 32) = c) (hg : -9223372036854775808 ≤ gas) (hg2 : gas ≤ 9223372036854775807) (w : World) (hT : Table w) :
    Calls Tryd.prog 15 #[.agg (wordV (ofN 2)), .string (str l), .int .i64 gas] w fun e W' => e = .returned (.tuple #[.string (str (if c ≤ gas then Sha.sumL l else [])), .int .i64 (if c ≤ gas then gas - c else 0), .bool (decide (c ≤ gas))]) ∧ Below w.heap.size w W' := by
  by_cases h : c ≤ gas
  · rw [if_pos h, if_pos h, decide_eq_true h]
    exact runs_2 l hl gas c hc hg hg2 h w hT
  · rw [if_neg h, if_neg h, decide_eq_false h]
    exact stops_2 l hl gas c hc hg hg2 (by omega) w hT
theorem runs_at4 (l : List UInt8) (hl : l.length ≤ 1048576) (gas c : Int) (hc : 15 + 3 * (((l.length : Int) + 31) / 32) = c) (hg : -9223372036854775808 ≤ gas) (hg2 : gas ≤ 9223372036854775807) (w : World) (hT : Table w) :
    Calls Tryd.prog 15 #[.agg (wordV (ofN 4)), .string (str l), .int .i64 gas] w fun e W' => e = .returned (.tuple #[.string (str (if c ≤ gas then l else [])), .int .i64 (if c ≤ gas then gas - c else 0), .bool (decide (c ≤ gas))]) ∧ Below w.heap.size w W' := by
  by_cases h : c ≤ gas
  · rw [if_pos h, if_pos h, decide_eq_true h]
    exact runs_4 l hl gas c hc hg hg2 h w hT
  · rw [if_neg h, if_neg h, decide_eq_false h]
    exact stops_4 l hl gas c hc hg hg2 (by omega) w hT

set_option maxRecDepth 100000 in
set_option maxHeartbeats 8000000 in
theorem left_true (l : List UInt8) (hl : l.length ≤ 9223372036854775807) (gas : Int) (hm : -9223372036854775808 ≤ gas) (hm2 : gas ≤ 9223372036854775807) (w : World) (hT : Table w) :
    Calls Tryd.prog 4 #[.string (str l), .int .i64 gas] w fun e W' => e = .returned (.bool true) ∧ Below w.heap.size w W' := by
  obtain ⟨x, hx, key⟩ : ∃ x : List UInt8, x.length ≤ 300 ∧ ((300 < l.length ∧ (str l).extract 0 300 = str x) ∨ (l.length ≤ 300 ∧ str l = str x)) := by
    by_cases h : 300 < l.length
    · exact ⟨l.take 300, by rw [List.length_take]; omega, .inl ⟨h, str_cut l 300⟩⟩
    · exact ⟨l, by omega, .inr ⟨by omega, rfl⟩⟩
  have s1 := str_size l
  have s2 := str_size x
  have hT0 := hT.pos
  obtain ⟨g, hg, hpick⟩ := pick_nat gas 300 w (by decide) (by decide) hm hm2
  have hpick' : ∀ w, Calls Tryd.prog 9 #[.int .i64 gas, .int .i64 300] w fun e W' => e = .returned (.int .i64 g) ∧ w = W' := hpick
  obtain ⟨c, hc⟩ : ∃ c, 60 + 12 * (((x.length : Int) + 31) / 32) = c := ⟨_, rfl⟩
  obtain ⟨d, hd⟩ : ∃ d, 15 + 3 * (((x.length : Int) + 31) / 32) = d := ⟨_, rfl⟩
  have Hs := fun w hT => sum_str x (by omega) w hT
  have hsl : (str (Sha.sumL x)).size = 32 := Sha.sumL_length x
  have R2 := fun w hT => runs_at2 x (by omega) g c hc (by omega) (by omega) w hT
  have R4 := fun w hT => runs_at4 x (by omega) g d hd (by omega) (by omega) w hT
  have C2 := costs_2 x.length (by omega) c hc
  have C4 := costs_4 x.length (by omega) d hd
  generalize Sha.sumL x = h at *
  have hr2 : ∀ w, Calls Tryd.prog 12 #[.int .i64 2] w fun e W' => e = .returned (.agg (wordV (ofN 2))) ∧ Below w.heap.size w W' := ref_of 2 (by decide)
  have hr4 : ∀ w, Calls Tryd.prog 12 #[.int .i64 4] w fun e W' => e = .returned (.agg (wordV (ofN 4))) ∧ Below w.heap.size w W' := ref_of 4 (by decide)
  generalize ofN 2 = f2 at *
  generalize ofN 4 = f4 at *
  have hc0 : 0 ≤ c ∧ c ≤ 1000 := by omega
  have hd0 : 0 ≤ d ∧ d ≤ 1000 := by omega
  clear hc hd hpick
  have hx' : (x.length : Int) ≤ 300 := by omega
  rcases key with ⟨hlong, hcut⟩ | ⟨hlong, hcut⟩
  all_goals
    go_enter Tryd.func4, Tryd.ntmps4
    go_wp2_with fail
    refine (awake_any w hT).mono ?_
    rintro e w1 ⟨rfl, B1⟩
    go_wp2_with fail
    refine (hpick' _).mono ?_
    rintro e w2 ⟨rfl, rfl⟩
    go_wp2_with fail
    refine (Hs _ (hT.later B1)).mono ?_
    rintro e w2 ⟨rfl, hb2⟩
    have B2 := B1.trans (hb2.mono B1.size)
    clear hb2 B1
    go_wp2_with fail
    refine wp_abs (fun W => Holds_ W w2.heap.size 3 #[.int .i64 2, .int .i64 4] ∧ Below w.heap.size w W) ⟨Holds_.new _ _ _, B2.alloc B2.size _⟩ ?_
    rintro W ⟨hH, hB⟩
    clear B2
    generalize w2.heap.size = Bk at *
    go_loopw [34] (fun t wr => ∃ k : Nat, k ≤ 2 ∧ t = .int .i64 k ∧ Holds_ wr Bk 3 #[.int .i64 2, .int .i64 4] ∧ Below w.heap.size w wr) (fun t _ => 2 - (intOf t).toNat)
    case atStart => exact ⟨0, by omega, rfl, hH, hB⟩
    case round =>
      clear hH hB
      obtain ⟨k, hk, rfl, hH, hB⟩ := hrel
      obtain rfl | rfl | rfl : k = 0 ∨ k = 1 ∨ k = 2 := by omega
      · have q : wr.cell? ⟨Bk, 0, none⟩ = some (.int .i64 2) := hH.cell 0
        go_wp2_with fail
        refine (hr2 _).mono ?_
        rintro e w3 ⟨rfl, hb3⟩
        have B3 := hB.trans (hb3.mono hB.size)
        have hH3 := hH.below hb3 hH.lt
        clear hb3 hB hH q
        go_wp2_with fail
        refine (C2 _).mono ?_
        rintro e w4 ⟨rfl, hb4⟩
        have B4 := B3.trans (hb4.mono B3.size)
        have hH4 := hH3.below hb4 hH3.lt
        clear hb4 B3 hH3
        go_wp2_with fail
        refine (hr2 _).mono ?_
        rintro e w5 ⟨rfl, hb5⟩
        have B5 := B4.trans (hb5.mono B4.size)
        have hH5 := hH4.below hb5 hH4.lt
        clear hb5 B4 hH4
        go_wp2_with fail
        by_cases hle : c ≤ (g : Int)
        · have R := R2 _ (hT.below B5 hT0)
          rw [if_pos hle, if_pos hle, decide_eq_true hle] at R
          refine R.mono ?_
          rintro e w6 ⟨rfl, hb6⟩
          have B6 := B5.trans (hb6.mono B5.size)
          have hH6 := hH5.below hb6 hH5.lt
          clear hb6 B5 hH5 R
          have i1 : IntKind.i64.wrap ((g : Int) - c) = (g : Int) - c := IntWalk.i64_in _ (by omega)
          go_wp2_with fail
          go_roundw
          case rel => exact ⟨1, by omega, rfl, hH6, B6⟩
          case measure => simp [intOf]
        · have R := R2 _ (hT.below B5 hT0)
          rw [if_neg hle, if_neg hle, decide_eq_false hle] at R
          refine R.mono ?_
          rintro e w6 ⟨rfl, hb6⟩
          have B6 := B5.trans (hb6.mono B5.size)
          have hH6 := hH5.below hb6 hH5.lt
          clear hb6 B5 hH5 R
          have hsn : (str []) = ⟨#[]⟩ := rfl
          rw [hsn]
          go_wp2_with fail
          go_roundw
          case rel => exact ⟨1, by omega, rfl, hH6, B6⟩
          case measure => simp [intOf]
      · have q : wr.cell? ⟨Bk, 1, none⟩ = some (.int .i64 4) := hH.cell 1
        go_wp2_with fail
        refine (hr4 _).mono ?_
        rintro e w3 ⟨rfl, hb3⟩
        have B3 := hB.trans (hb3.mono hB.size)
        have hH3 := hH.below hb3 hH.lt
        clear hb3 hB hH q
        go_wp2_with fail
        refine (C4 _).mono ?_
        rintro e w4 ⟨rfl, hb4⟩
        have B4 := B3.trans (hb4.mono B3.size)
        have hH4 := hH3.below hb4 hH3.lt
        clear hb4 B3 hH3
        go_wp2_with fail
        refine (hr4 _).mono ?_
        rintro e w5 ⟨rfl, hb5⟩
        have B5 := B4.trans (hb5.mono B4.size)
        have hH5 := hH4.below hb5 hH4.lt
        clear hb5 B4 hH4
        go_wp2_with fail
        by_cases hle : d ≤ (g : Int)
        · have R := R4 _ (hT.below B5 hT0)
          rw [if_pos hle, if_pos hle, decide_eq_true hle] at R
          refine R.mono ?_
          rintro e w6 ⟨rfl, hb6⟩
          have B6 := B5.trans (hb6.mono B5.size)
          have hH6 := hH5.below hb6 hH5.lt
          clear hb6 B5 hH5 R
          have i1 : IntKind.i64.wrap ((g : Int) - d) = (g : Int) - d := IntWalk.i64_in _ (by omega)
          go_wp2_with fail
          go_roundw
          case rel => exact ⟨2, by omega, rfl, hH6, B6⟩
          case measure => simp [intOf]
        · have R := R4 _ (hT.below B5 hT0)
          rw [if_neg hle, if_neg hle, decide_eq_false hle] at R
          refine R.mono ?_
          rintro e w6 ⟨rfl, hb6⟩
          have B6 := B5.trans (hb6.mono B5.size)
          have hH6 := hH5.below hb6 hH5.lt
          clear hb6 B5 hH5 R
          have hsn : (str []) = ⟨#[]⟩ := rfl
          rw [hsn]
          go_wp2_with fail
          go_roundw
          case rel => exact ⟨2, by omega, rfl, hH6, B6⟩
          case measure => simp [intOf]
      · go_wp2_with fail
        go_ret
        exact ⟨rfl, hB⟩
theorem left_str (s : ByteArray) (hs : s.size ≤ maxLen) (gas : Int) (hm : -9223372036854775808 ≤ gas) (hm2 : gas ≤ 9223372036854775807) (w : World) (hT : Table w) :
    Calls Tryd.prog 4 #[.string s, .int .i64 gas] w fun e W' => e = .returned (.bool true) ∧ Below w.heap.size w W' := by
  have h := left_true s.data.toList (by simpa [maxLen] using hs) gas hm hm2 w hT
  rw [str_of] at h
  exact h
end Go.Proofs.YtkgbecgdappjoaaDoor
