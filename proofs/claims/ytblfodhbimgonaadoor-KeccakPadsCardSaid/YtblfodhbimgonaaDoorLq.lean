/- KeccakPads, by its walk. -/
import Derived.Test.YtblfodhbimgonaaDoorLp
namespace Go.Proofs.YtblfodhbimgonaaDoor
open Go.RowKit Go.Shelf
set_option linter.unusedVariables false
set_option linter.unusedSimpArgs false

set_option maxRecDepth 100000 in
set_option maxHeartbeats 8000000 in
theorem pads_true (l m : List UInt8) (hl : l.length ≤ 9223372036854775807) (hm : m.length ≤ 9223372036854775807) (w : World) (hT : Table w) :
    Calls Tryd.prog 5 #[.string (str l), .string (str m)] w fun e W' => e = .returned (.bool true) ∧ Below w.heap.size w W' := by
  obtain ⟨x, hx, key⟩ : ∃ x : List UInt8, x.length ≤ 1000 ∧ ((1000 < l.length ∧ (str l).extract 0 1000 = str x) ∨ (l.length ≤ 1000 ∧ l = x)) := by
    by_cases h : 1000 < l.length
    · exact ⟨l.take 1000, by rw [List.length_take]; omega, .inl ⟨h, str_cut l 1000⟩⟩
    · exact ⟨l, by omega, .inr ⟨by omega, rfl⟩⟩
  obtain ⟨z, hz, keyz⟩ : ∃ z : List UInt8, z.length ≤ 300 ∧ ((300 < m.length ∧ (str m).extract 0 300 = str z) ∨ (m.length ≤ 300 ∧ (str m).extract 0 m.length = str z)) := by
    by_cases h : 300 < m.length
    · exact ⟨m.take 300, by rw [List.length_take]; omega, .inl ⟨h, str_cut m 300⟩⟩
    · exact ⟨m, by omega, .inr ⟨by omega, by rw [str_cut, List.take_length]⟩⟩
  have s1 := str_size l
  have s2 := str_size m
  have s3 := str_size x
  have s4 := str_size z
  have hxz := str_append x z
  have hyl : (x ++ z).length ≤ 1300 := by rw [List.length_append]; omega
  obtain ⟨y, hy⟩ : ∃ y, x ++ z = y := ⟨_, rfl⟩
  rw [hy] at hxz hyl
  have Hp := pad_str x (by omega)
  have Hq := pad_str y (by omega)
  have hpq : (Kec.padL x == Kec.padL y) = (x == y) := by
    rw [Bool.eq_iff_iff, beq_iff_eq, beq_iff_eq]
    exact ⟨Kec.padL_inj, fun h => by rw [h]⟩
  have hp0 := Kec.padL_length x
  have hp1 := Kec.padL_last x
  have hp2 := Kec.padL_one x
  have hp3 := fun i => Kec.padL_tail_getD x i
  have hN := Kec.padN_lt x.length
  have hN0 := Kec.padN_zero x.length
  generalize Kec.padN x.length = N at *
  generalize Kec.padL x = p at *
  generalize Kec.padL y = q at *
  obtain ⟨lx, hlx⟩ : ∃ lx, x.length = lx := ⟨_, rfl⟩
  rw [hlx] at hp0 hp1 hp2 hp3 hN0 hx s3
  obtain ⟨lp, hlp⟩ : ∃ lp, p.length = lp := ⟨_, rfl⟩
  have s5 : (str p).size = lp := hlp
  have s6 : ((str p).toList == (str q).toList) = (x == y) := by rw [str_toList, str_toList]; exact hpq
  have s7 : ((str x).toList == (str y).toList) = (x == y) := by rw [str_toList, str_toList]
  obtain ⟨r, hr⟩ : ∃ r, (x == y) = r := ⟨_, rfl⟩
  rw [hr] at s6 s7
  rw [hlp] at hp0 hp1
  have b1 : lp - 1 < (str p).size := by omega
  have b2 : lx < (str p).size := by omega
  rw [← str_getD p _ b1] at hp1
  rw [← str_getD p _ b2] at hp2
  have b3 : lx + N < (str p).size := by omega
  have t1 : 128 ≤ (((str p)[lx + N]'b3).toNat : Int) := by
    have e : lx + N = lp - 1 := by omega
    rw [show (str p)[lx + N]'b3 = (str p)[lp - 1]'b1 from by congr 1, hp1]
    split <;> decide
  have t3 : decide (128 ≤ (((str p)[lx + N]'b3).toNat : Int)) = true := decide_eq_true t1
  have t2 : ((((str p)[lx]'b2).toNat : Int) % 2) = 1 := by rw [hp2]; split <;> decide
  have hstep : ∀ j : Nat, lx ≤ j → j < lp → ∃ (hj : j < (str p).size) (b : Nat), b < 256 ∧ (str p)[j].toNat = b ∧ Kec.sumTo (Kec.tail N) (j - lx) ≤ 40000 ∧ Kec.sumTo (Kec.tail N) (j + 1 - lx) = Kec.sumTo (Kec.tail N) (j - lx) + b := by
    intro j h1 h2
    have hj : j < (str p).size := by omega
    refine ⟨hj, (str p)[j].toNat, UInt8.toNat_lt _, rfl, ?_, ?_⟩
    · have := Kec.sumTo_le (Kec.tail N) (j - lx); omega
    · rw [show j + 1 - lx = (j - lx) + 1 from by omega, str_getD p _ hj]
      have := hp3 (j - lx)
      rw [show lx + (j - lx) = j from by omega] at this
      rw [this]
      rfl
  have hsum := Kec.sumTo_tail N
  have hsum0 : Kec.sumTo (Kec.tail N) 0 = 0 := rfl
  generalize Kec.sumTo (Kec.tail N) = S at *
  have hpos : lx < lp := by omega
  clear hpq hr hp1 hp2 hp3
  rcases key with ⟨h, hcut⟩ | ⟨h, rfl⟩
  · rcases keyz with ⟨h', hcut'⟩ | ⟨h', hcut'⟩
    · go_enter Tryd.func5, Tryd.ntmps5
      go_wp2_with fail
      refine (awake_any w hT).mono ?_
      rintro e w1 ⟨rfl, hb1⟩
      go_wp2_with fail
      refine (Hp _).mono ?_
      rintro e w2 ⟨rfl, hb2⟩
      go_wp2_with fail
      refine (Hq _).mono ?_
      rintro e w3 ⟨rfl, hb3⟩
      have hB3 : Below w.heap.size w w3 := (hb1.trans (hb2.mono hb1.size)).trans (hb3.mono (Nat.le_trans hb1.size hb2.size))
      clear Hp Hq hb1 hb2 hb3
      go_wp2_with fail
      go_loop [10, 11] (fun t i => ∃ j : Nat, lx ≤ j ∧ j ≤ lp ∧ i = .int .i64 j ∧ t = .int .i64 (S (j - lx) : Nat)) (fun _ i => lp - (intOf i).toNat)
      case atStart => exact ⟨lx, by omega, by omega, rfl, by rw [Nat.sub_self, hsum0]; rfl⟩
      case round =>
        obtain ⟨j, hj1, hj2, rfl, rfl⟩ := hrel
        by_cases hlt : j < lp
        · obtain ⟨hj, b, hb256, hb, hle, hs⟩ := hstep j hj1 hlt
          have hlt' : (j : Int) < (lp : Int) := by omega
          have e1 : IntKind.i64.wrap ((b : Nat) : Int) = (b : Int) := IntWalk.i64_in _ (by omega)
          obtain ⟨T, hTT⟩ : ∃ T, S (j - lx) = T := ⟨_, rfl⟩
          rw [hTT] at hs hle ⊢
          have HS := Lib.hid hs
          clear hs hTT hstep
          go_wp2
          go_round
          case rel => exact ⟨j + 1, by omega, by omega, by go_num, by rw [HS.out]; go_num⟩
          case measure => simp [intOf]; omega
        · obtain rfl : j = lp := by omega
          have hS : S (j - lx) = 129 := by rw [show j - lx = N + 1 from by omega]; exact hsum
          rw [hS]
          clear hstep
          go_wp2
          go_ret
          exact ⟨rfl, hB3⟩
    · go_enter Tryd.func5, Tryd.ntmps5
      go_wp2_with fail
      refine (awake_any w hT).mono ?_
      rintro e w1 ⟨rfl, hb1⟩
      go_wp2_with fail
      refine (Hp _).mono ?_
      rintro e w2 ⟨rfl, hb2⟩
      go_wp2_with fail
      refine (Hq _).mono ?_
      rintro e w3 ⟨rfl, hb3⟩
      have hB3 : Below w.heap.size w w3 := (hb1.trans (hb2.mono hb1.size)).trans (hb3.mono (Nat.le_trans hb1.size hb2.size))
      clear Hp Hq hb1 hb2 hb3
      go_wp2_with fail
      go_loop [10, 11] (fun t i => ∃ j : Nat, lx ≤ j ∧ j ≤ lp ∧ i = .int .i64 j ∧ t = .int .i64 (S (j - lx) : Nat)) (fun _ i => lp - (intOf i).toNat)
      case atStart => exact ⟨lx, by omega, by omega, rfl, by rw [Nat.sub_self, hsum0]; rfl⟩
      case round =>
        obtain ⟨j, hj1, hj2, rfl, rfl⟩ := hrel
        by_cases hlt : j < lp
        · obtain ⟨hj, b, hb256, hb, hle, hs⟩ := hstep j hj1 hlt
          have hlt' : (j : Int) < (lp : Int) := by omega
          have e1 : IntKind.i64.wrap ((b : Nat) : Int) = (b : Int) := IntWalk.i64_in _ (by omega)
          obtain ⟨T, hTT⟩ : ∃ T, S (j - lx) = T := ⟨_, rfl⟩
          rw [hTT] at hs hle ⊢
          have HS := Lib.hid hs
          clear hs hTT hstep
          go_wp2
          go_round
          case rel => exact ⟨j + 1, by omega, by omega, by go_num, by rw [HS.out]; go_num⟩
          case measure => simp [intOf]; omega
        · obtain rfl : j = lp := by omega
          have hS : S (j - lx) = 129 := by rw [show j - lx = N + 1 from by omega]; exact hsum
          rw [hS]
          clear hstep
          go_wp2
          go_ret
          exact ⟨rfl, hB3⟩
  · rcases keyz with ⟨h', hcut'⟩ | ⟨h', hcut'⟩
    · go_enter Tryd.func5, Tryd.ntmps5
      go_wp2_with fail
      refine (awake_any w hT).mono ?_
      rintro e w1 ⟨rfl, hb1⟩
      go_wp2_with fail
      refine (Hp _).mono ?_
      rintro e w2 ⟨rfl, hb2⟩
      go_wp2_with fail
      refine (Hq _).mono ?_
      rintro e w3 ⟨rfl, hb3⟩
      have hB3 : Below w.heap.size w w3 := (hb1.trans (hb2.mono hb1.size)).trans (hb3.mono (Nat.le_trans hb1.size hb2.size))
      clear Hp Hq hb1 hb2 hb3
      go_wp2_with fail
      go_loop [10, 11] (fun t i => ∃ j : Nat, lx ≤ j ∧ j ≤ lp ∧ i = .int .i64 j ∧ t = .int .i64 (S (j - lx) : Nat)) (fun _ i => lp - (intOf i).toNat)
      case atStart => exact ⟨lx, by omega, by omega, rfl, by rw [Nat.sub_self, hsum0]; rfl⟩
      case round =>
        obtain ⟨j, hj1, hj2, rfl, rfl⟩ := hrel
        by_cases hlt : j < lp
        · obtain ⟨hj, b, hb256, hb, hle, hs⟩ := hstep j hj1 hlt
          have hlt' : (j : Int) < (lp : Int) := by omega
          have e1 : IntKind.i64.wrap ((b : Nat) : Int) = (b : Int) := IntWalk.i64_in _ (by omega)
          obtain ⟨T, hTT⟩ : ∃ T, S (j - lx) = T := ⟨_, rfl⟩
          rw [hTT] at hs hle ⊢
          have HS := Lib.hid hs
          clear hs hTT hstep
          go_wp2
          go_round
          case rel => exact ⟨j + 1, by omega, by omega, by go_num, by rw [HS.out]; go_num⟩
          case measure => simp [intOf]; omega
        · obtain rfl : j = lp := by omega
          have hS : S (j - lx) = 129 := by rw [show j - lx = N + 1 from by omega]; exact hsum
          rw [hS]
          clear hstep
          go_wp2
          go_ret
          exact ⟨rfl, hB3⟩
    · go_enter Tryd.func5, Tryd.ntmps5
      go_wp2_with fail
      refine (awake_any w hT).mono ?_
      rintro e w1 ⟨rfl, hb1⟩
      go_wp2_with fail
      refine (Hp _).mono ?_
      rintro e w2 ⟨rfl, hb2⟩
      go_wp2_with fail
      refine (Hq _).mono ?_
      rintro e w3 ⟨rfl, hb3⟩
      have hB3 : Below w.heap.size w w3 := (hb1.trans (hb2.mono hb1.size)).trans (hb3.mono (Nat.le_trans hb1.size hb2.size))
      clear Hp Hq hb1 hb2 hb3
      go_wp2_with fail
      go_loop [10, 11] (fun t i => ∃ j : Nat, lx ≤ j ∧ j ≤ lp ∧ i = .int .i64 j ∧ t = .int .i64 (S (j - lx) : Nat)) (fun _ i => lp - (intOf i).toNat)
      case atStart => exact ⟨lx, by omega, by omega, rfl, by rw [Nat.sub_self, hsum0]; rfl⟩
      case round =>
        obtain ⟨j, hj1, hj2, rfl, rfl⟩ := hrel
        by_cases hlt : j < lp
        · obtain ⟨hj, b, hb256, hb, hle, hs⟩ := hstep j hj1 hlt
          have hlt' : (j : Int) < (lp : Int) := by omega
          have e1 : IntKind.i64.wrap ((b : Nat) : Int) = (b : Int) := IntWalk.i64_in _ (by omega)
          obtain ⟨T, hTT⟩ : ∃ T, S (j - lx) = T := ⟨_, rfl⟩
          rw [hTT] at hs hle ⊢
          have HS := Lib.hid hs
          clear hs hTT hstep
          go_wp2
          go_round
          case rel => exact ⟨j + 1, by omega, by omega, by go_num, by rw [HS.out]; go_num⟩
          case measure => simp [intOf]; omega
        · obtain rfl : j = lp := by omega
          have hS : S (j - lx) = 129 := by rw [show j - lx = N + 1 from by omega]; exact hsum
          rw [hS]
          clear hstep
          go_wp2
          go_ret
          exact ⟨rfl, hB3⟩
theorem pads_str (s t : ByteArray) (hs : s.size ≤ maxLen) (ht : t.size ≤ maxLen) (w : World) (hT : Table w) :
    Calls Tryd.prog 5 #[.string s, .string t] w fun e W' => e = .returned (.bool true) ∧ Below w.heap.size w W' := by
  have h := pads_true s.data.toList t.data.toList (by simpa [maxLen] using hs) (by simpa [maxLen] using ht) w hT
  rw [str_of, str_of] at h
  exact h
end Go.Proofs.YtblfodhbimgonaaDoor
