/- KeccakBlocks, by its walk. -/
import Derived.Test.YtblfodhbimgonaaDoorLo
namespace Go.Proofs.YtblfodhbimgonaaDoor
open Go.RowKit Go.Shelf
set_option linter.unusedVariables false
set_option linter.unusedSimpArgs false

theorem u64_xor_low (n x k : Nat) (hn : n < 18446744073709551616) (hx : x < 256) (hv : x * 2 ^ k < 18446744073709551616) :
    bits .xor .u64 (n : Int) (IntKind.u64.wrap (IntKind.u64.wrap (x : Int) * 2 ^ k)) = ((n ^^^ x * 2 ^ k : Nat) : Int) := by
  have h1 : IntKind.u64.wrap (x : Int) = (x : Int) := by rw [IntKind.wrap_u64]; omega
  have h2 : IntKind.u64.wrap ((x : Int) * 2 ^ k) = ((x * 2 ^ k : Nat) : Int) := by
    rw [IntKind.wrap_u64, show ((x : Int) * 2 ^ k) = ((x * 2 ^ k : Nat) : Int) from by simp]
    omega
  rw [h1, h2, u64_xor_nat _ _ hn hv]

set_option maxRecDepth 100000 in
set_option maxHeartbeats 8000000 in
theorem blocks_true (l : List UInt8) (hl : l.length ≤ 9223372036854775807) (w : World) (hT : Table w) :
    Calls Tryd.prog 4 #[.string (str l)] w fun e W' => e = .returned (.bool true) ∧ Below w.heap.size w W' := by
  obtain ⟨x, hx, key⟩ : ∃ x : List UInt8, x.length ≤ 600 ∧ ((600 < l.length ∧ (str l).extract 0 600 = str x) ∨ (l.length ≤ 600 ∧ l = x)) := by
    by_cases h : 600 < l.length
    · exact ⟨l.take 600, by rw [List.length_take]; omega, .inl ⟨h, str_cut l 600⟩⟩
    · exact ⟨l, by omega, .inr ⟨by omega, rfl⟩⟩
  have s1 := str_size l
  have sx := str_size x
  have Hp := pad_str x (by omega)
  have Hs := fun w hT => sum_str x (by omega) w hT
  have hsl := Kec.sumL_length x
  have hp := Kec.padL_full x
  have hcutp : (str (Kec.padL x)).extract 0 x.length = str x := by rw [str_cut, Kec.padL_take]
  have hsum : Kec.sumL x = Kec.outL (Kec.absL (Kec.padL x) (List.range ((Kec.padL x).length / 136))) := rfl
  obtain ⟨q, hq⟩ : ∃ q, x.length / 136 + 1 = q := ⟨_, rfl⟩
  obtain ⟨lx, hlx⟩ : ∃ lx, x.length = lx := ⟨_, rfl⟩
  rw [hlx] at hq hp hx sx hcutp
  rw [hq] at hp
  have hq5 : q ≤ 5 := by omega
  have hdiv : (Kec.padL x).length / 136 = q := by omega
  rw [hdiv] at hsum
  generalize Kec.padL x = p at *
  generalize Kec.sumL x = h at *
  obtain ⟨lp, hlp⟩ : ∃ lp, 136 * q = lp := ⟨_, rfl⟩
  rw [hlp] at hp
  have r1 : lx < lp := by omega
  have r2 : lp ≤ lx + 136 := by omega
  have r3 : (lp : Int) % 136 = 0 := by omega
  have r4 : (lp : Int).tmod 136 = 0 := by rw [Int.tmod_eq_emod_of_nonneg (by omega)]; omega
  have r5 : decide (lp ≤ lx) = false := decide_eq_false (by omega)
  have r6 : decide ((lx : Int) + 136 < (lp : Int)) = false := decide_eq_false (by omega)
  have s2 : (str p).size = lp := hp
  have s3 : (str h).size = 32 := hsl
  have hbyte : ∀ n : Nat, n < lp → ∃ (hk : n < (str p).size), (str p)[n] = p.getD n 0 := fun k hk => ⟨by omega, str_getD p k (by omega)⟩
  have hAok := fun c => Kec.absL_ok p (List.range c)
  obtain ⟨b, hb⟩ : ∃ b, Kec.absL p (List.range q) = b := ⟨_, rfl⟩
  rw [hb] at hsum
  have hhash : ∀ k : Nat, k < 32 → ∃ (hk : k < (str h).size), ((str h)[k].toNat : Int) = (b (k / 8) / 2 ^ (8 * (k % 8)) % 256 : Nat) := fun k hk => by
    refine ⟨by omega, ?_⟩
    rw [str_getD h k (by omega), hsum]
    simp [Kec.outL, Kec.outByte, hk]
  have HBB := Lib.hid hb
  clear hsum hb
  rcases key with ⟨hc, hcut⟩ | ⟨hc, rfl⟩
  · go_enter Tryd.func4, Tryd.ntmps4
    go_wp2_with fail
    refine (awake_any w hT).mono ?_
    rintro e w1 ⟨rfl, hb1⟩
    go_wp2_with fail
    refine (Hp _).mono ?_
    rintro e w2 ⟨rfl, hb2⟩
    have hB2 : Below w.heap.size w w2 := hb1.trans (hb2.mono hb1.size)
    clear Hp hb1 hb2
    go_wp2_with fail
    refine wp_abs (fun W => Holds_ W w2.heap.size 24 (lanesV (Kec.xorTo (Kec.absL p (List.range 0)) p 0 0)) ∧ Below w.heap.size w W) ?f0 ?g0
    case f0 => exact ⟨by rw [Kec.xorTo_zero]; exact Holds_.new w2 24 (lanesV Kec.zero), hB2.alloc hB2.size _⟩
    rintro W ⟨hA, hB⟩
    have hsz := hB2.size
    go_loopw [7] (fun t wr => ∃ c k : Nat, k < 136 ∧ 136 * c + k ≤ lp ∧ t = .int .i64 (136 * c + k : Nat) ∧ Holds_ wr w2.heap.size 24 (lanesV (Kec.xorTo (Kec.absL p (List.range c)) p c k)) ∧ Below w.heap.size w wr)
      (fun t _ => lp - (intOf t).toNat)
    case atStart => exact ⟨0, 0, by omega, by omega, rfl, hA, hB⟩
    case round =>
      obtain ⟨c, k, hk, hn, rfl, hA, hB⟩ := hrel
      obtain ⟨n, hnn⟩ : ∃ n, 136 * c + k = n := ⟨_, rfl⟩
      rw [hnn] at hn ⊢
      by_cases hlt : n < lp
      · obtain ⟨hks, hkb⟩ := hbyte n hlt
        have hA0 := hAok c
        have hstep := Kec.xorTo_succ (Kec.absL p (List.range c)) p c k (by omega)
        have hfull := Kec.xorTo_all (Kec.absL p (List.range c)) p c
        have hnext := Kec.absL_range p c
        have hnew := Kec.xorTo_zero (Kec.absL p (List.range (c + 1))) p (c + 1)
        rw [hnn] at hstep
        have hv := Kec.byte_lt (p.getD n 0).toNat k (UInt8.toNat_lt _)
        rw [← hkb] at hstep hv
        have hXok := Kec.xorTo_ok _ p c k hA0
        obtain ⟨d, hc1⟩ : ∃ d, k / 8 = d := ⟨_, rfl⟩
        obtain ⟨r, hr⟩ : ∃ r, k % 8 = r := ⟨_, rfl⟩
        obtain ⟨o, ho⟩ : ∃ o, 8 * r = o := ⟨_, rfl⟩
        have hn2 : Kec.xorTo (Kec.absL p (List.range c)) p c k d < 18446744073709551616 := hXok d (by omega)
        rw [hr, ho] at hv
        rw [hc1, hr, ho] at hstep
        have i0 : (n : Int) % 136 = (k : Int) := by omega
        have i00 : (n : Int).tmod 136 = (k : Int) := by rw [Int.tmod_eq_emod_of_nonneg (by omega)]; omega
        have i1 : (k : Int) / 8 = (d : Int) := by omega
        have i2 : (k : Int) % 8 = (r : Int) := by omega
        have i3 : IntKind.i64.wrap (8 * (r : Int)) = (o : Int) := (IntWalk.i64_in _ (by omega)).trans (by omega)
        have i4 : IntKind.i64.wrap (d : Int) = (d : Int) := IntWalk.i64_in _ (by omega)
        have i5 : (k : Int).tmod 8 = (r : Int) := by rw [Int.tmod_eq_emod_of_nonneg (by omega)]; omega
        have i6 : ¬ (o : Int) < 0 := by omega
        have i7 : ¬ (64 : Int) ≤ (o : Int) := by omega
        have hd25 : (d : Int) < 25 := by omega
        have ho56 : (o : Int) ≤ 56 := by omega
        have hnlp : (n : Int) < (lp : Int) := by omega
        have hB9 := Kec.absB
        have hperm := fun (hk135 : k = 135) => show Kec.perm (Kec.xorTo (Kec.absL p (List.range c)) p c (k + 1)) = Kec.xorTo (Kec.absL p (List.range (c + 1))) p (c + 1) 0 from by
          rw [hnew, hnext, show k + 1 = 136 from by omega, hfull]; rfl
        have hYok := Kec.xorTo_ok _ p c (k + 1) hA0
        have HP := Lib.hid hperm
        have HS := Lib.hid hstep
        have HY := Lib.hid hYok
        have hx256 : ((str p)[n]'hks).toNat < 256 := UInt8.toNat_lt _
        have HN := Lib.hid hnn
        clear hstep hkb hbyte hhash hc1 hr ho hnn hB9 hnew hnext hfull hA0 hAok hperm hYok hXok
        generalize Kec.xorTo (Kec.absL p (List.range c)) p c k = X at *
        have q1 : wr.cell? ⟨w2.heap.size, d, none⟩ = some (.int .u64 (X d : Nat)) := (hA.cell _).trans (row_get _ _ _ _ (by omega))
        have q2 : wr.frozen? ⟨w2.heap.size, d, none⟩ = false := hA.free _
        have hlow := u64_xor_low (X d) ((str p)[n]'hks).toNat o hn2 hx256 hv
        go_wp2_with fail
        go_still_tail 16, (by kernel_rfl)
        change wpList _ _ _ _ _ wr.drew
        have hA2 := hA.drew
        have hB2 := hB.drew
        have q3 : wr.drew.cell? ⟨w2.heap.size, d, none⟩ = some (.int .u64 (X d : Nat)) := q1
        have q4 : wr.drew.frozen? ⟨w2.heap.size, d, none⟩ = false := q2
        generalize wr.drew = wd at *
        clear q1 q2 hlow
        have hA3 : Holds_ (wd.setCell ⟨w2.heap.size, d, none⟩ (.int .u64 ((X d ^^^ ((str p)[n]'hks).toNat * 2 ^ o : Nat) : Int))) w2.heap.size 24 (lanesV (Kec.xorTo (Kec.absL p (List.range c)) p c (k + 1))) := by
          rw [HS.out]
          exact hA2.putN d _ (by omega)
        have hB3 : Below w.heap.size w (wd.setCell ⟨w2.heap.size, d, none⟩ (.int .u64 ((X d ^^^ ((str p)[n]'hks).toNat * 2 ^ o : Nat) : Int))) := hB2.setCell (p := ⟨w2.heap.size, d, none⟩) (by simp; omega) _
        by_cases h135 : k = 135
        · have t1 : ((k : Int) == 135) = true := by rw [beq_iff_eq]; omega
          have HPM := Lib.hid (HP.out h135)
          have hOk := HY.out
          have hle : 136 * (c + 1) + 0 ≤ lp := by have := HN.out; omega
          have hne : n + 1 = 136 * (c + 1) + 0 := by have := HN.out; omega
          clear HP HS HY HN
          generalize Kec.xorTo (Kec.absL p (List.range c)) p c (k + 1) = Y at *
          go_wp2_with (with_reducible show wpList _ _ _ (⟨some 74, _, _, _, _, _⟩ :: _) _ _; refine wpList_loadRow rfl 24 _ rfl w2.heap.size rfl 24 _ _ hA3 Tryd.underlying24 rfl (by rw [row_size]; exact info24) ?_)
          refine (permute_any Y hOk _ (hT.below hB3)).mono ?_
          rintro e w4 ⟨rfl, hb4⟩
          have hA4 := hA3.below hb4 hA3.lt
          have hB4 := hB3.trans (hb4.mono hB3.size)
          clear hb4 hA3 hB3
          go_wp2_with (with_reducible show wpList _ _ _ (⟨none, _, _, _, _, _⟩ :: _) _ _; refine wpList_storeRow rfl 24 _ _ rfl w2.heap.size _ rfl rfl 24 _ hA4 (by rw [row_size]; exact info24) (by simp [row_size]) (row_one _ _ _) ?_)
          have h9 := hA4.putRow (lanesV (Kec.perm Y))
          have h8 := below_putRow hB4 hsz (lanesV (Kec.perm Y))
          exact ⟨⟨c + 1, 0, by omega, hle, by rw [← hne]; go_num, by rw [← HPM.out]; exact h9, h8⟩, by simp [intOf]; omega⟩
        · have t1 : ((k : Int) == 135) = false := by rw [beq_eq_false_iff_ne]; omega
          have hle : 136 * c + (k + 1) ≤ lp := by have := HN.out; omega
          have hne : n + 1 = 136 * c + (k + 1) := by have := HN.out; omega
          clear HP HS HY HN
          go_wp2_with fail
          exact ⟨⟨c, k + 1, by omega, hle, by rw [← hne]; go_num, hA3, hB3⟩, by simp [intOf]; omega⟩
      · obtain rfl : n = lp := by omega
        obtain ⟨rfl, rfl⟩ : c = q ∧ k = 0 := by omega
        rw [Kec.xorTo_zero, HBB.out] at hA
        clear hbyte hAok HBB
        go_wp2_with fail
        refine (Hs _ (hT.below hB)).mono ?_
        rintro e w6 ⟨rfl, hb6⟩
        have hN6 := hA.below hb6 hA.lt
        have hB6 := hB.trans (hb6.mono hB.size)
        clear Hs hb6 hA hB
        go_wp2_with fail
        go_loopw [11] (fun t wr => ∃ k : Nat, k ≤ 32 ∧ t = .int .i64 k ∧ Holds_ wr w2.heap.size 24 (lanesV b) ∧ Below w.heap.size w wr)
          (fun t _ => 32 - (intOf t).toNat)
        case atStart => exact ⟨0, by omega, rfl, hN6, hB6⟩
        case round =>
          obtain ⟨k, hk, rfl, hA, hB⟩ := hrel
          by_cases hlt : k < 32
          · obtain ⟨hks, hkb⟩ := hhash k hlt
            obtain ⟨c, hc1⟩ : ∃ c, k / 8 = c := ⟨_, rfl⟩
            obtain ⟨r, hr⟩ : ∃ r, k % 8 = r := ⟨_, rfl⟩
            obtain ⟨o, ho⟩ : ∃ o, 8 * r = o := ⟨_, rfl⟩
            rw [hc1, hr, ho] at hkb
            have i1 : (k : Int) / 8 = (c : Int) := by omega
            have i2 : (k : Int) % 8 = (r : Int) := by omega
            have i3 : IntKind.i64.wrap (8 * (r : Int)) = (o : Int) := (IntWalk.i64_in _ (by omega)).trans (by omega)
            have i4 : IntKind.i64.wrap (c : Int) = (c : Int) := IntWalk.i64_in _ (by omega)
            have i5 : (k : Int).tmod 8 = (r : Int) := by rw [Int.tmod_eq_emod_of_nonneg (by omega)]; omega
            have i6 : ¬ (o : Int) < 0 := by omega
            have i7 : ¬ (64 : Int) ≤ (o : Int) := by omega
            have hc25 : (c : Int) < 25 := by omega
            have hk32 : (k : Int) < 32 := by omega
            have ho56 : (o : Int) ≤ 56 := by omega
            clear hhash hc1 hr ho
            have q1 : wr.cell? ⟨w2.heap.size, c, none⟩ = some (.int .u64 (b c : Nat)) := (hA.cell _).trans (row_get _ _ _ _ (by omega))
            go_wp2_with fail
            have hwb : IntKind.u8.wrap ((b c : Int) / 2 ^ o) = (((str h)[k]'hks).toNat : Int) := by
              rw [hkb, IntKind.wrap_u8, show ((b c : Int) / 2 ^ o) = ((b c / 2 ^ o : Nat) : Int) from by simp]
              omega
            clear hkb
            go_still (by kernel_rfl)
            change Exit.then _ _ _ _ wr.drew
            have hA2 := hA.drew
            have hB2 := hB.drew
            generalize wr.drew = wd at *
            go_wp2_with fail
            exact ⟨⟨k + 1, by omega, by go_num, hA2, hB2⟩, by simp [intOf]; omega⟩
          · obtain rfl : k = 32 := by omega
            clear hhash
            go_wp2_with fail
            go_ret
            exact ⟨rfl, hB⟩
  · go_enter Tryd.func4, Tryd.ntmps4
    go_wp2_with fail
    refine (awake_any w hT).mono ?_
    rintro e w1 ⟨rfl, hb1⟩
    go_wp2_with fail
    refine (Hp _).mono ?_
    rintro e w2 ⟨rfl, hb2⟩
    have hB2 : Below w.heap.size w w2 := hb1.trans (hb2.mono hb1.size)
    clear Hp hb1 hb2
    go_wp2_with fail
    refine wp_abs (fun W => Holds_ W w2.heap.size 24 (lanesV (Kec.xorTo (Kec.absL p (List.range 0)) p 0 0)) ∧ Below w.heap.size w W) ?f1 ?g1
    case f1 => exact ⟨by rw [Kec.xorTo_zero]; exact Holds_.new w2 24 (lanesV Kec.zero), hB2.alloc hB2.size _⟩
    rintro W ⟨hA, hB⟩
    have hsz := hB2.size
    go_loopw [7] (fun t wr => ∃ c k : Nat, k < 136 ∧ 136 * c + k ≤ lp ∧ t = .int .i64 (136 * c + k : Nat) ∧ Holds_ wr w2.heap.size 24 (lanesV (Kec.xorTo (Kec.absL p (List.range c)) p c k)) ∧ Below w.heap.size w wr)
      (fun t _ => lp - (intOf t).toNat)
    case atStart => exact ⟨0, 0, by omega, by omega, rfl, hA, hB⟩
    case round =>
      obtain ⟨c, k, hk, hn, rfl, hA, hB⟩ := hrel
      obtain ⟨n, hnn⟩ : ∃ n, 136 * c + k = n := ⟨_, rfl⟩
      rw [hnn] at hn ⊢
      by_cases hlt : n < lp
      · obtain ⟨hks, hkb⟩ := hbyte n hlt
        have hA0 := hAok c
        have hstep := Kec.xorTo_succ (Kec.absL p (List.range c)) p c k (by omega)
        have hfull := Kec.xorTo_all (Kec.absL p (List.range c)) p c
        have hnext := Kec.absL_range p c
        have hnew := Kec.xorTo_zero (Kec.absL p (List.range (c + 1))) p (c + 1)
        rw [hnn] at hstep
        have hv := Kec.byte_lt (p.getD n 0).toNat k (UInt8.toNat_lt _)
        rw [← hkb] at hstep hv
        have hXok := Kec.xorTo_ok _ p c k hA0
        obtain ⟨d, hc1⟩ : ∃ d, k / 8 = d := ⟨_, rfl⟩
        obtain ⟨r, hr⟩ : ∃ r, k % 8 = r := ⟨_, rfl⟩
        obtain ⟨o, ho⟩ : ∃ o, 8 * r = o := ⟨_, rfl⟩
        have hn2 : Kec.xorTo (Kec.absL p (List.range c)) p c k d < 18446744073709551616 := hXok d (by omega)
        rw [hr, ho] at hv
        rw [hc1, hr, ho] at hstep
        have i0 : (n : Int) % 136 = (k : Int) := by omega
        have i00 : (n : Int).tmod 136 = (k : Int) := by rw [Int.tmod_eq_emod_of_nonneg (by omega)]; omega
        have i1 : (k : Int) / 8 = (d : Int) := by omega
        have i2 : (k : Int) % 8 = (r : Int) := by omega
        have i3 : IntKind.i64.wrap (8 * (r : Int)) = (o : Int) := (IntWalk.i64_in _ (by omega)).trans (by omega)
        have i4 : IntKind.i64.wrap (d : Int) = (d : Int) := IntWalk.i64_in _ (by omega)
        have i5 : (k : Int).tmod 8 = (r : Int) := by rw [Int.tmod_eq_emod_of_nonneg (by omega)]; omega
        have i6 : ¬ (o : Int) < 0 := by omega
        have i7 : ¬ (64 : Int) ≤ (o : Int) := by omega
        have hd25 : (d : Int) < 25 := by omega
        have ho56 : (o : Int) ≤ 56 := by omega
        have hnlp : (n : Int) < (lp : Int) := by omega
        have hB9 := Kec.absB
        have hperm := fun (hk135 : k = 135) => show Kec.perm (Kec.xorTo (Kec.absL p (List.range c)) p c (k + 1)) = Kec.xorTo (Kec.absL p (List.range (c + 1))) p (c + 1) 0 from by
          rw [hnew, hnext, show k + 1 = 136 from by omega, hfull]; rfl
        have hYok := Kec.xorTo_ok _ p c (k + 1) hA0
        have HP := Lib.hid hperm
        have HS := Lib.hid hstep
        have HY := Lib.hid hYok
        have hx256 : ((str p)[n]'hks).toNat < 256 := UInt8.toNat_lt _
        have HN := Lib.hid hnn
        clear hstep hkb hbyte hhash hc1 hr ho hnn hB9 hnew hnext hfull hA0 hAok hperm hYok hXok
        generalize Kec.xorTo (Kec.absL p (List.range c)) p c k = X at *
        have q1 : wr.cell? ⟨w2.heap.size, d, none⟩ = some (.int .u64 (X d : Nat)) := (hA.cell _).trans (row_get _ _ _ _ (by omega))
        have q2 : wr.frozen? ⟨w2.heap.size, d, none⟩ = false := hA.free _
        have hlow := u64_xor_low (X d) ((str p)[n]'hks).toNat o hn2 hx256 hv
        go_wp2_with fail
        go_still_tail 16, (by kernel_rfl)
        change wpList _ _ _ _ _ wr.drew
        have hA2 := hA.drew
        have hB2 := hB.drew
        have q3 : wr.drew.cell? ⟨w2.heap.size, d, none⟩ = some (.int .u64 (X d : Nat)) := q1
        have q4 : wr.drew.frozen? ⟨w2.heap.size, d, none⟩ = false := q2
        generalize wr.drew = wd at *
        clear q1 q2 hlow
        have hA3 : Holds_ (wd.setCell ⟨w2.heap.size, d, none⟩ (.int .u64 ((X d ^^^ ((str p)[n]'hks).toNat * 2 ^ o : Nat) : Int))) w2.heap.size 24 (lanesV (Kec.xorTo (Kec.absL p (List.range c)) p c (k + 1))) := by
          rw [HS.out]
          exact hA2.putN d _ (by omega)
        have hB3 : Below w.heap.size w (wd.setCell ⟨w2.heap.size, d, none⟩ (.int .u64 ((X d ^^^ ((str p)[n]'hks).toNat * 2 ^ o : Nat) : Int))) := hB2.setCell (p := ⟨w2.heap.size, d, none⟩) (by simp; omega) _
        by_cases h135 : k = 135
        · have t1 : ((k : Int) == 135) = true := by rw [beq_iff_eq]; omega
          have HPM := Lib.hid (HP.out h135)
          have hOk := HY.out
          have hle : 136 * (c + 1) + 0 ≤ lp := by have := HN.out; omega
          have hne : n + 1 = 136 * (c + 1) + 0 := by have := HN.out; omega
          clear HP HS HY HN
          generalize Kec.xorTo (Kec.absL p (List.range c)) p c (k + 1) = Y at *
          go_wp2_with (with_reducible show wpList _ _ _ (⟨some 74, _, _, _, _, _⟩ :: _) _ _; refine wpList_loadRow rfl 24 _ rfl w2.heap.size rfl 24 _ _ hA3 Tryd.underlying24 rfl (by rw [row_size]; exact info24) ?_)
          refine (permute_any Y hOk _ (hT.below hB3)).mono ?_
          rintro e w4 ⟨rfl, hb4⟩
          have hA4 := hA3.below hb4 hA3.lt
          have hB4 := hB3.trans (hb4.mono hB3.size)
          clear hb4 hA3 hB3
          go_wp2_with (with_reducible show wpList _ _ _ (⟨none, _, _, _, _, _⟩ :: _) _ _; refine wpList_storeRow rfl 24 _ _ rfl w2.heap.size _ rfl rfl 24 _ hA4 (by rw [row_size]; exact info24) (by simp [row_size]) (row_one _ _ _) ?_)
          have h9 := hA4.putRow (lanesV (Kec.perm Y))
          have h8 := below_putRow hB4 hsz (lanesV (Kec.perm Y))
          exact ⟨⟨c + 1, 0, by omega, hle, by rw [← hne]; go_num, by rw [← HPM.out]; exact h9, h8⟩, by simp [intOf]; omega⟩
        · have t1 : ((k : Int) == 135) = false := by rw [beq_eq_false_iff_ne]; omega
          have hle : 136 * c + (k + 1) ≤ lp := by have := HN.out; omega
          have hne : n + 1 = 136 * c + (k + 1) := by have := HN.out; omega
          clear HP HS HY HN
          go_wp2_with fail
          exact ⟨⟨c, k + 1, by omega, hle, by rw [← hne]; go_num, hA3, hB3⟩, by simp [intOf]; omega⟩
      · obtain rfl : n = lp := by omega
        obtain ⟨rfl, rfl⟩ : c = q ∧ k = 0 := by omega
        rw [Kec.xorTo_zero, HBB.out] at hA
        clear hbyte hAok HBB
        go_wp2_with fail
        refine (Hs _ (hT.below hB)).mono ?_
        rintro e w6 ⟨rfl, hb6⟩
        have hN6 := hA.below hb6 hA.lt
        have hB6 := hB.trans (hb6.mono hB.size)
        clear Hs hb6 hA hB
        go_wp2_with fail
        go_loopw [11] (fun t wr => ∃ k : Nat, k ≤ 32 ∧ t = .int .i64 k ∧ Holds_ wr w2.heap.size 24 (lanesV b) ∧ Below w.heap.size w wr)
          (fun t _ => 32 - (intOf t).toNat)
        case atStart => exact ⟨0, by omega, rfl, hN6, hB6⟩
        case round =>
          obtain ⟨k, hk, rfl, hA, hB⟩ := hrel
          by_cases hlt : k < 32
          · obtain ⟨hks, hkb⟩ := hhash k hlt
            obtain ⟨c, hc1⟩ : ∃ c, k / 8 = c := ⟨_, rfl⟩
            obtain ⟨r, hr⟩ : ∃ r, k % 8 = r := ⟨_, rfl⟩
            obtain ⟨o, ho⟩ : ∃ o, 8 * r = o := ⟨_, rfl⟩
            rw [hc1, hr, ho] at hkb
            have i1 : (k : Int) / 8 = (c : Int) := by omega
            have i2 : (k : Int) % 8 = (r : Int) := by omega
            have i3 : IntKind.i64.wrap (8 * (r : Int)) = (o : Int) := (IntWalk.i64_in _ (by omega)).trans (by omega)
            have i4 : IntKind.i64.wrap (c : Int) = (c : Int) := IntWalk.i64_in _ (by omega)
            have i5 : (k : Int).tmod 8 = (r : Int) := by rw [Int.tmod_eq_emod_of_nonneg (by omega)]; omega
            have i6 : ¬ (o : Int) < 0 := by omega
            have i7 : ¬ (64 : Int) ≤ (o : Int) := by omega
            have hc25 : (c : Int) < 25 := by omega
            have hk32 : (k : Int) < 32 := by omega
            have ho56 : (o : Int) ≤ 56 := by omega
            clear hhash hc1 hr ho
            have q1 : wr.cell? ⟨w2.heap.size, c, none⟩ = some (.int .u64 (b c : Nat)) := (hA.cell _).trans (row_get _ _ _ _ (by omega))
            go_wp2_with fail
            have hwb : IntKind.u8.wrap ((b c : Int) / 2 ^ o) = (((str h)[k]'hks).toNat : Int) := by
              rw [hkb, IntKind.wrap_u8, show ((b c : Int) / 2 ^ o) = ((b c / 2 ^ o : Nat) : Int) from by simp]
              omega
            clear hkb
            go_still (by kernel_rfl)
            change Exit.then _ _ _ _ wr.drew
            have hA2 := hA.drew
            have hB2 := hB.drew
            generalize wr.drew = wd at *
            go_wp2_with fail
            exact ⟨⟨k + 1, by omega, by go_num, hA2, hB2⟩, by simp [intOf]; omega⟩
          · obtain rfl : k = 32 := by omega
            clear hhash
            go_wp2_with fail
            go_ret
            exact ⟨rfl, hB⟩
theorem blocks_str (s : ByteArray) (hs : s.size ≤ maxLen) (w : World) (hT : Table w) :
    Calls Tryd.prog 4 #[.string s] w fun e W' => e = .returned (.bool true) ∧ Below w.heap.size w W' := by
  have h := blocks_true s.data.toList (by simpa [maxLen] using hs) w hT
  rw [str_of] at h
  exact h
end Go.Proofs.YtblfodhbimgonaaDoor
