/- StackTells, by its walk. -/
import Derived.Test.YthfopoeahphnjaaTa
namespace Go.Proofs.Ythfopoeahphnjaa
open Go.RowKit Go.Shelf
set_option linter.unusedVariables false
set_option linter.unusedSimpArgs false

set_option maxRecDepth 100000 in
set_option maxHeartbeats 8000000 in
theorem tells_true (v1 : Value) (l1 : List Int) (great : Bool) (less : Int) (hle : -9223372036854775808 ≤ less) (hle2 : less ≤ 9223372036854775807) (x : Wd) (n : Int) (hn : -9223372036854775808 ≤ n) (hn2 : n ≤ 9223372036854775807) (w : World) (g1 : Is w v1 l1) :
    Calls Try.prog 3 #[v1, .bool great, .int .i64 less, .agg (wdV x), .int .i64 n] w fun e W' => e = .returned (.bool true) ∧ Below w.heap.size w W' := by
  have hs1 := fun w => stack_any v1 l1 great less hle hle2 w
  have hSl : (stackL l1 great less).length ≤ 5000 := by
    have hb := goal_bd less
    unfold stackL
    split
    · rw [moreL_length _ _ (by rw [baseL_length]; omega)]
      omega
    · rw [baseL_length]; omega
  generalize stackL l1 great less = S at *
  obtain ⟨r1, hr1, hp1⟩ := pick_nat n 25 (by decide) (by decide) hn hn2
  have hp1' : ∀ w, Calls Try.prog 12 #[.int .i64 n, .int .i64 25] w fun e W' => e = .returned (.int .i64 r1) ∧ w = W' := hp1
  obtain ⟨r2, hr2, hp2⟩ := pick_nat n 1030 (by decide) (by decide) hn hn2
  have hp2' : ∀ w, Calls Try.prog 12 #[.int .i64 n, .int .i64 1030] w fun e W' => e = .returned (.int .i64 r2) ∧ w = W' := hp2
  clear hp1 hp2
  obtain ⟨a, b, c, d⟩ := x
  rw [show wdV (a, b, c, d) = #[.int .u64 (a : Nat), .int .u64 (b : Nat), .int .u64 (c : Nat), .int .u64 (d : Nat)] from rfl]
  have hX0 := Holds_.new w 25 #[.int .u64 (a : Nat), .int .u64 (b : Nat), .int .u64 (c : Nat), .int .u64 (d : Nat)]
  have B0 := (Below.refl w.heap.size w).alloc (Nat.le_refl _) (.cells #[.int .u64 (a : Nat), .int .u64 (b : Nat), .int .u64 (c : Nat), .int .u64 (d : Nat)] 25)
  have g1 := g1.below B0 (Nat.le_refl _)
  go_enter Try.func3, Try.ntmps3
  go_wp2_with fail
  refine (awake_any _).mono ?_
  rintro e w1 ⟨rfl, hb⟩
  have hX := hX0.below hb hX0.lt
  have g1 := g1.below hb (Nat.le_refl _)
  have B1 := B0.trans (hb.mono B0.size)
  clear hb hX0 B0
  go_wp2_with fail
  refine (hs1 _ g1).mono ?_
  rintro e w2 ⟨vs, rfl, hs, hb⟩
  have hX := hX.below hb hX.lt
  have B2 := B1.trans (hb.mono B1.size)
  clear hb B1 g1 hs1
  obtain ⟨As, cs, rfl, s1', s2', s3'⟩ := hs.form
  have hI : (Try.prog.info? 25).map (·.size) = some (#[.int .u64 (a : Nat), .int .u64 (b : Nat), .int .u64 (c : Nat), .int .u64 (d : Nat)] : Array Value).size := info25
  go_wp2_with (first
    | (with_reducible show wpList _ _ _ (⟨some 36, _, _, _, _, _⟩ :: _) _ _; refine wpList_loadRow rfl 25 _ rfl w.heap.size rfl 25 _ _ hX Try.underlying25 rfl hI ?_)
    | (with_reducible show wpList _ _ _ (⟨some 38, _, _, _, _, _⟩ :: _) _ _; refine wpList_loadRow rfl 25 _ rfl w.heap.size rfl 25 _ _ (hX.alloc _) Try.underlying25 rfl hI ?_))
  refine wp_abs (fun W => Holds_ W (w2.heap.size + 1 + 1) 27 #[.slice none 0 0, .slice (some ⟨w2.heap.size, 0, none⟩) 1 1, .slice (some ⟨w2.heap.size + 1, 0, none⟩) 2 2, .slice As S.length cs] ∧ Ws W (.slice (some ⟨w2.heap.size, 0, none⟩) 1 1) [(a, b, c, d)] ∧ Ws W (.slice (some ⟨w2.heap.size + 1, 0, none⟩) 2 2) [(a, b, c, d), wA] ∧ Ws W (.slice As S.length cs) S ∧ Below w.heap.size w W) ?f0 ?g0
  case f0 =>
    have h1 : Ws (w2.alloc (.cells #[.int .u64 (a : Nat), .int .u64 (b : Nat), .int .u64 (c : Nat), .int .u64 (d : Nat)] 25)) (.slice (some ⟨w2.heap.size, 0, none⟩) 1 1) [(a, b, c, d)] := ws_cells (Holds_.new _ _ _) rfl rfl (by decide)
    have h2 : Ws ((w2.alloc (.cells #[.int .u64 (a : Nat), .int .u64 (b : Nat), .int .u64 (c : Nat), .int .u64 (d : Nat)] 25)).alloc (.cells #[.int .u64 (a : Nat), .int .u64 (b : Nat), .int .u64 (c : Nat), .int .u64 (d : Nat), .int .u64 1, .int .u64 0, .int .u64 0, .int .u64 0] 25)) (.slice (some ⟨(w2.alloc (.cells #[.int .u64 (a : Nat), .int .u64 (b : Nat), .int .u64 (c : Nat), .int .u64 (d : Nat)] 25)).heap.size, 0, none⟩) 2 2) [(a, b, c, d), wA] := ws_cells (Holds_.new _ _ _) rfl rfl (by decide)
    have h3 := Holds_.new ((w2.alloc (.cells #[.int .u64 (a : Nat), .int .u64 (b : Nat), .int .u64 (c : Nat), .int .u64 (d : Nat)] 25)).alloc (.cells #[.int .u64 (a : Nat), .int .u64 (b : Nat), .int .u64 (c : Nat), .int .u64 (d : Nat), .int .u64 1, .int .u64 0, .int .u64 0, .int .u64 0] 25)) 27 #[.slice none 0 0, .slice (some ⟨w2.heap.size, 0, none⟩) 1 1, .slice (some ⟨w2.heap.size + 1, 0, none⟩) 2 2, .slice As S.length cs]
    simp only [World.size_alloc] at h2 h3
    exact ⟨h3, (h1.alloc _).alloc _, h2.alloc _, ((hs.alloc _).alloc _).alloc _, ((B2.alloc B2.size _).alloc (by have := B2.size; simp; omega) _).alloc (by have := B2.size; simp; omega) _⟩
  rintro WA ⟨hH, hL1, hL2, hs, B3⟩
  generalize w2.heap.size + 1 + 1 = gL at *
  generalize (Value.slice (some ⟨w2.heap.size, 0, none⟩) 1 1) = u1 at *
  generalize (Value.slice (some ⟨w2.heap.size + 1, 0, none⟩) 2 2) = u2 at *
  clear B2 hX s1' s2' s3'
  generalize (Value.slice As S.length cs) = vs at *
  go_loopw [44] (fun i wr => ∃ j : Nat, j ≤ 4 ∧ i = .int .i64 j ∧ Below WA.heap.size WA wr)
    (fun i _ => 4 - (intOf i).toNat)
  case atStart => exact ⟨0, by omega, rfl, Below.refl _ _⟩
  case round =>
    obtain ⟨j, hj, rfl, hB⟩ := hrel
    have hs := hs.later hB
    have B4 := B3.trans (hB.mono B3.size)
    have hbs := hB.size
    by_cases hlt : j < 4
    · obtain ⟨u, M, hu, hM, hMl⟩ : ∃ u M, (#[.slice none 0 0, u1, u2, vs] : Array Value)[j]? = some u ∧ Ws WA u M ∧ M.length ≤ 5000 := by
        match j, hlt with
        | 0, _ => exact ⟨_, [], rfl, Ws.nil_ _, by simp⟩
        | 1, _ => exact ⟨_, _, rfl, hL1, by simp⟩
        | 2, _ => exact ⟨_, _, rfl, hL2, by simp⟩
        | 3, _ => exact ⟨_, S, rfl, by assumption, hSl⟩
      have q0 : wr.cell? ⟨gL, j, none⟩ = some u := ((hH.below hB hH.lt).cell j).trans hu
      have hM := hM.later hB
      have j1 : (j : Int) < 4 := by omega
      have hpu := push_any _ _ S M hSl hMl wr hs hM
      clear hH hL1 hL2 hu
      go_wp2_with fail
      refine hpu.mono ?_
      rintro e w5 ⟨va, rfl, ha, hb⟩
      have hs := hs.later hb
      have hM := hM.later hb
      have hB5 := hB.trans (hb.mono hbs)
      have hbs5 := hB5.size
      clear hb hpu q0
      have hpu := rpush_any _ _ S M hSl hMl w5 hs hM
      generalize pushE S M = e1 at *
      generalize pushL S M = P1 at *
      go_wp2_with fail
      refine hpu.mono ?_
      rintro e w6 ⟨vb, rfl, hvb, hb⟩
      have ha := ha.later hb
      have hB6 := hB5.trans (hb.mono hbs5)
      have hbs6 := hB6.size
      clear hb hpu
      have hsame := same_any _ _ _ _ _ ha hvb
      rw [decide_eq_true (show P1 = P1 from rfl)] at hsame
      go_wp2_with fail
      refine hsame.mono ?_
      rintro e w7 ⟨rfl, hb⟩
      have hB7 := hB6.trans (hb.mono hbs6)
      clear hb hsame ha hvb
      go_wp2_with fail
      go_roundw
      case rel => exact ⟨j + 1, by omega, by go_num, hB7⟩
      case measure => simp [intOf]; omega
    · obtain rfl : j = 4 := by omega
      clear hH hL1 hL2 hB B3 hbs
      go_wp2_with fail
      refine (hp1' _).mono ?_
      rintro e w' ⟨rfl, rfl⟩
      go_wp2_with fail
      refine (hp2' _).mono ?_
      rintro e w' ⟨rfl, rfl⟩
      clear hp1' hp2'
      go_wp2_with fail
      refine wp_abs (fun W => Holds_ W wr.heap.size 3 #[.int .i64 n, .int .i64 r1, .int .i64 r2] ∧ Ws W vs S ∧ Below w.heap.size w W) ?f1 ?g1
      case f1 => exact ⟨Holds_.new _ _ _, hs.alloc _, B4.alloc B4.size _⟩
      rintro WB ⟨hH, hs, B5⟩
      clear B4
      generalize wr.heap.size = gI at *
      go_loopw [77] (fun i wv => ∃ j : Nat, j ≤ 3 ∧ i = .int .i64 j ∧ Below WB.heap.size WB wv)
        (fun i _ => 3 - (intOf i).toNat)
      case atStart => exact ⟨0, by omega, rfl, Below.refl _ _⟩
      case round =>
        obtain ⟨j, hj, rfl, hB⟩ := hrel
        have hs := hs.later hB
        have B6 := B5.trans (hB.mono B5.size)
        have hbs := hB.size
        by_cases hlt : j < 3
        · obtain ⟨k, hu, hk1, hk2⟩ : ∃ k : Int, (#[.int .i64 n, .int .i64 r1, .int .i64 r2] : Array Value)[j]? = some (.int .i64 k) ∧ -9223372036854775808 ≤ k ∧ k ≤ 9223372036854775807 := by
            match j, hlt with
            | 0, _ => exact ⟨_, rfl, hn, hn2⟩
            | 1, _ => exact ⟨_, rfl, by omega, by omega⟩
            | 2, _ => exact ⟨_, rfl, by omega, by omega⟩
          have q0 := ((hH.below hB hH.lt).cell j).trans hu
          have j1 : (j : Int) < 3 := by omega
          have h1 := fun W h => dup_any vs S hSl k hk1 hk2 W h
          have h2 := fun W h => rdup_any vs S hSl k hk1 hk2 W h
          have h3 := fun W h => swap_any vs S hSl k hk1 hk2 W h
          have h4 := fun W h => rswap_any vs S hSl k hk1 hk2 W h
          have h5 := fun W h => pop_any vs S hSl k hk1 hk2 W h
          have h6 := fun W h => rpop_any vs S hSl k hk1 hk2 W h
          generalize dupE S k = e1 at *
          generalize dupL S k = P1 at *
          generalize swapE S k = e2 at *
          generalize swapL S k = P2 at *
          generalize popE S k = e3 at *
          generalize popA S k = P3 at *
          generalize popB S k = P4 at *
          clear hH hu
          go_wp2_with fail
          refine (h1 _ hs).mono ?_
          rintro e y1 ⟨va, rfl, ha, hb⟩
          have hs := hs.later hb
          have hB := hB.trans (hb.mono hbs)
          have hbs := hB.size
          clear hb h1 q0
          go_wp2_with fail
          refine (h2 _ hs).mono ?_
          rintro e y2 ⟨vb, rfl, hvb, hb⟩
          have hs := hs.later hb
          have ha := ha.later hb
          have hB := hB.trans (hb.mono hbs)
          have hbs := hB.size
          clear hb h2
          go_wp2_with fail
          refine (h3 _ hs).mono ?_
          rintro e y3 ⟨vc, rfl, hvc, hb⟩
          have hs := hs.later hb
          have ha := ha.later hb
          have hvb := hvb.later hb
          have hB := hB.trans (hb.mono hbs)
          have hbs := hB.size
          clear hb h3
          go_wp2_with fail
          refine (h4 _ hs).mono ?_
          rintro e y4 ⟨vd, rfl, hvd, hb⟩
          have hs := hs.later hb
          have ha := ha.later hb
          have hvb := hvb.later hb
          have hvc := hvc.later hb
          have hB := hB.trans (hb.mono hbs)
          have hbs := hB.size
          clear hb h4
          have hsame := same_any _ _ _ _ _ ha hvb
          rw [decide_eq_true (show P1 = P1 from rfl)] at hsame
          go_wp2_with fail
          refine hsame.mono ?_
          rintro e y5 ⟨rfl, hb⟩
          have hs := hs.later hb
          have hvc := hvc.later hb
          have hvd := hvd.later hb
          have hB := hB.trans (hb.mono hbs)
          have hbs := hB.size
          clear hb hsame ha hvb
          have hsame := same_any _ _ _ _ _ hvc hvd
          rw [decide_eq_true (show P2 = P2 from rfl)] at hsame
          go_wp2_with fail
          refine hsame.mono ?_
          rintro e y6 ⟨rfl, hb⟩
          have hs := hs.later hb
          have hB := hB.trans (hb.mono hbs)
          have hbs := hB.size
          clear hb hsame hvc hvd
          go_wp2_with fail
          refine (h5 _ hs).mono ?_
          rintro e y7 ⟨va, vx, rfl, ha, hvx, hb⟩
          have hs := hs.later hb
          have hB := hB.trans (hb.mono hbs)
          have hbs := hB.size
          clear hb h5
          go_wp2_with fail
          refine (h6 _ hs).mono ?_
          rintro e y8 ⟨vb, vy, rfl, hvb, hvy, hb⟩
          have ha := ha.later hb
          have hvx := hvx.later hb
          have hB := hB.trans (hb.mono hbs)
          have hbs := hB.size
          clear hb h6
          have hsame := same_any _ _ _ _ _ ha hvb
          rw [decide_eq_true (show P3 = P3 from rfl)] at hsame
          go_wp2_with fail
          refine hsame.mono ?_
          rintro e y9 ⟨rfl, hb⟩
          have hvx := hvx.later hb
          have hvy := hvy.later hb
          have hB := hB.trans (hb.mono hbs)
          have hbs := hB.size
          clear hb hsame ha hvb
          have hsame := same_any _ _ _ _ _ hvx hvy
          rw [decide_eq_true (show P4 = P4 from rfl)] at hsame
          go_wp2_with fail
          refine hsame.mono ?_
          rintro e y10 ⟨rfl, hb⟩
          have hB := hB.trans (hb.mono hbs)
          clear hb hsame hvx hvy
          go_wp2_with fail
          go_roundw
          case rel => exact ⟨j + 1, by omega, by go_num, hB⟩
          case measure => simp [intOf]; omega
        · obtain rfl : j = 3 := by omega
          go_wp2_with fail
          go_ret
          exact ⟨rfl, B6⟩
end Go.Proofs.Ythfopoeahphnjaa
