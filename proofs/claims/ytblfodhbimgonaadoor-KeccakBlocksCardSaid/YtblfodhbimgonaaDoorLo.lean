/- KeccakOne, by its walk. -/
import Derived.Test.YtblfodhbimgonaaDoorLp
import Derived.Test.YtblfodhbimgonaaDoorKecW
import Derived.StillTailTactics
namespace Go.Proofs.YtblfodhbimgonaaDoor
open Go.RowKit Go.Shelf
set_option linter.unusedVariables false
set_option linter.unusedSimpArgs false

theorem calls_abs {P : Program} {f : FuncId} {args : Array Value} {w : World} {Q : Ending → World → Prop} (R : World → Prop) (h0 : R w) (h : ∀ W, R W → Calls P f args W Q) : Calls P f args w Q := h w h0

theorem one_sum (x : List UInt8) (hx : x.length ≤ 135) : Kec.sumL x = Kec.outL (Kec.perm (Kec.orTo (Kec.padL x) 136)) := by
  have h := Kec.padL_full x
  unfold Kec.sumL
  rw [show (Kec.padL x).length / 136 = 0 + 1 from by omega, Kec.absL_range, Kec.orTo_all]
  rfl

set_option maxRecDepth 100000 in
set_option maxHeartbeats 8000000 in
theorem one_true (l : List UInt8) (hl : l.length ≤ 9223372036854775807) (w : World) (hT : Table w) :
    Calls Tryd.prog 8 #[.string (str l)] w fun e W' => e = .returned (.bool true) ∧ Below w.heap.size w W' := by
  obtain ⟨x, hx, key⟩ : ∃ x : List UInt8, x.length ≤ 135 ∧ ((135 < l.length ∧ (str l).extract 0 135 = str x) ∨ (l.length ≤ 135 ∧ (str l).extract 0 l.length = str x)) := by
    by_cases h : 135 < l.length
    · exact ⟨l.take 135, by rw [List.length_take]; omega, .inl ⟨h, str_cut l 135⟩⟩
    · exact ⟨l, by omega, .inr ⟨by omega, by rw [str_cut, List.take_length]⟩⟩
  have s1 := str_size l
  have Hp := pad_str x (by omega)
  have Hs := fun w hT => sum_str x (by omega) w hT
  have hsum := one_sum x hx
  have hsl := Kec.sumL_length x
  have hp := Kec.padL_full x
  have hp1 : (Kec.padL x).length = 136 := by omega
  generalize Kec.padL x = p at *
  generalize Kec.sumL x = h at *
  have hok : Kec.Ok (Kec.orTo p 136) := fun i hi => Kec.pw_lt p 0 136 i
  have Hperm := fun W hT => permute_any (Kec.orTo p 136) hok W hT
  have hbok := Kec.perm_ok _ hok
  obtain ⟨b, hb⟩ : ∃ b, Kec.perm (Kec.orTo p 136) = b := ⟨_, rfl⟩
  rw [hb] at Hperm hsum hbok
  clear hb
  have s2 : (str p).size = 136 := hp1
  have s3 : (str h).size = 32 := hsl
  have hbyte : ∀ k : Nat, k < 136 → ∃ (hk : k < (str p).size), (str p)[k] = p.getD k 0 := fun k hk => ⟨by omega, str_getD p k (by omega)⟩
  have hhash : ∀ k : Nat, k < 32 → ∃ (hk : k < (str h).size), ((str h)[k].toNat : Int) = (b (k / 8) / 2 ^ (8 * (k % 8)) % 256 : Nat) := fun k hk => by
    refine ⟨by omega, ?_⟩
    rw [str_getD h k (by omega), hsum]
    simp [Kec.outL, Kec.outByte, hk]
  clear hsum hbok hok
  rcases key with ⟨hc, hcut⟩ | ⟨hc, hcut⟩
  · go_enter Tryd.func8, Tryd.ntmps8
    go_wp2_with fail
    refine (awake_any w hT).mono ?_
    rintro e w1 ⟨rfl, hb1⟩
    go_wp2_with fail
    refine (Hp _).mono ?_
    rintro e w2 ⟨rfl, hb2⟩
    have hB2 : Below w.heap.size w w2 := hb1.trans (hb2.mono hb1.size)
    clear Hp hb1 hb2
    go_wp2_with fail
    refine wp_abs (fun W => Holds_ W w2.heap.size 24 (lanesV (Kec.orTo p 0)) ∧ Below w.heap.size w W) ?f0 ?g0
    case f0 => exact ⟨by rw [Kec.orTo_none]; exact Holds_.new w2 24 (lanesV Kec.zero), hB2.alloc hB2.size _⟩
    rintro W ⟨hA, hB⟩
    have hsz := hB2.size
    go_loopw [7] (fun t wr => ∃ k : Nat, k ≤ 136 ∧ t = .int .i64 k ∧ Holds_ wr w2.heap.size 24 (lanesV (Kec.orTo p k)) ∧ Below w.heap.size w wr)
      (fun t _ => 136 - (intOf t).toNat)
    case atStart => exact ⟨0, by omega, rfl, hA, hB⟩
    case round =>
      obtain ⟨k, hk, rfl, hA, hB⟩ := hrel
      by_cases hlt : k < 136
      · obtain ⟨hks, hkb⟩ := hbyte k hlt
        have hstep := Kec.orTo_succ p k (by omega)
        have hv := Kec.byte_lt (p.getD k 0).toNat k (UInt8.toNat_lt _)
        rw [← hkb] at hstep hv
        have hn := Kec.pw_lt p 0 k (k / 8)
        have hn2 : Kec.orTo p k (k / 8) < 18446744073709551616 := hn
        obtain ⟨c, hc1⟩ : ∃ c, k / 8 = c := ⟨_, rfl⟩
        obtain ⟨r, hr⟩ : ∃ r, k % 8 = r := ⟨_, rfl⟩
        obtain ⟨o, ho⟩ : ∃ o, 8 * r = o := ⟨_, rfl⟩
        rw [hr, ho] at hv
        rw [hc1] at hn2
        rw [hc1, hr, ho] at hstep
        have i1 : (k : Int) / 8 = (c : Int) := by omega
        have i2 : (k : Int) % 8 = (r : Int) := by omega
        have i3 : IntKind.i64.wrap (8 * (r : Int)) = (o : Int) := (IntWalk.i64_in _ (by omega)).trans (by omega)
        have i4 : IntKind.i64.wrap (c : Int) = (c : Int) := IntWalk.i64_in _ (by omega)
        have i5 : (k : Int).tmod 8 = (r : Int) := by rw [Int.tmod_eq_emod_of_nonneg (by omega)]; omega
        have i6 : ¬ (o : Int) < 0 := by omega
        have i7 : ¬ (64 : Int) ≤ (o : Int) := by omega
        have hc25 : (c : Int) < 25 := by omega
        have ho56 : (o : Int) ≤ 56 := by omega
        have hk136 : (k : Int) < 136 := by omega
        have HS := Lib.hid hstep
        have hx256 : ((str p)[k]'hks).toNat < 256 := UInt8.toNat_lt _
        clear hstep hkb hbyte hhash hc1 hr ho hn
        have q1 : wr.cell? ⟨w2.heap.size, c, none⟩ = some (.int .u64 (Kec.orTo p k c : Nat)) := (hA.cell _).trans (row_get _ _ _ _ (by omega))
        have q2 : wr.frozen? ⟨w2.heap.size, c, none⟩ = false := hA.free _
        have hlow := low_bits (Kec.orTo p k c) ((str p)[k]'hks).toNat o hn2 hx256 hv
        go_wp2_with fail
        go_still_tail 16, (by kernel_rfl)
        change wpList _ _ _ _ _ wr.drew
        have hA2 := hA.drew
        have hB2 := hB.drew
        have q3 : wr.drew.cell? ⟨w2.heap.size, c, none⟩ = some (.int .u64 (Kec.orTo p k c : Nat)) := q1
        have q4 : wr.drew.frozen? ⟨w2.heap.size, c, none⟩ = false := q2
        generalize wr.drew = wd at *
        clear q1 q2 hlow
        go_wp2_with fail
        refine ⟨⟨k + 1, by omega, by go_num, ?_, ?_⟩, by simp [intOf]; omega⟩
        · rw [HS.out]
          exact hA2.putN c _ (by omega)
        · exact hB2.setCell (p := ⟨w2.heap.size, c, none⟩) (by simp; omega) _
      · obtain rfl : k = 136 := by omega
        go_wp2_with (with_reducible show wpList _ _ _ (⟨some 43, _, _, _, _, _⟩ :: _) _ _; refine wpList_loadRow rfl 24 _ rfl w2.heap.size rfl 24 _ _ hA Tryd.underlying24 rfl (by rw [row_size]; exact info24) ?_)
        refine (Hperm _ (hT.below hB)).mono ?_
        rintro e w4 ⟨rfl, hb4⟩
        have hB4 := hB.trans (hb4.mono hB.size)
        clear Hperm hb4 hbyte hA
        go_wp2_with (with_reducible show wpList _ _ _ (⟨none, _, _, _, _, _⟩ :: _) _ _; refine wpList_storeRow rfl 24 _ _ rfl w4.heap.size _ rfl rfl 24 _ (Holds_.new w4 24 _) (by rw [row_size]; exact info24) (by simp [row_size]) (row_one _ _ _) ?_)
        refine calls_abs (fun V => Holds_ V w4.heap.size 24 (lanesV b) ∧ Below w.heap.size w V) ?f1 ?g1
        case f1 => exact ⟨(Holds_.new w4 24 _).putRow _, below_putRow (hB4.alloc hB4.size _) hB4.size _⟩
        rintro W5 ⟨hN5, hB5⟩
        refine (Hs _ (hT.below hB5)).mono ?_
        rintro e w6 ⟨rfl, hb6⟩
        have hN6 := hN5.below hb6 hN5.lt
        have hB6 := hB5.trans (hb6.mono hB5.size)
        clear Hs hb6 hN5 hB5
        go_wp2_with fail
        go_loopw [11] (fun t wr => ∃ k : Nat, k ≤ 32 ∧ t = .int .i64 k ∧ Holds_ wr w4.heap.size 24 (lanesV b) ∧ Below w.heap.size w wr)
          (fun t _ => 32 - (intOf t).toNat)
        case atStart => exact ⟨0, by omega, rfl, hN6, hB6⟩
        case round =>
          obtain ⟨k, hk, rfl, hA, hB⟩ := hrel
          by_cases hlt : k < 32
          · obtain ⟨hks, hkb⟩ := hhash k hlt
            obtain ⟨c, hc1⟩ : ∃ c, k / 8 = c := ⟨_, rfl⟩
            obtain ⟨r, hr⟩ : ∃ r, k % 8 = r := ⟨_, rfl⟩
            obtain ⟨o, ho⟩ : ∃ o, 8 * r = o := ⟨_, rfl⟩
            rw [hc1, hr, ho] at hkb
            have i1 : (k : Int) / 8 = (c : Int) := by omega
            have i2 : (k : Int) % 8 = (r : Int) := by omega
            have i3 : IntKind.i64.wrap (8 * (r : Int)) = (o : Int) := (IntWalk.i64_in _ (by omega)).trans (by omega)
            have i4 : IntKind.i64.wrap (c : Int) = (c : Int) := IntWalk.i64_in _ (by omega)
            have i5 : (k : Int).tmod 8 = (r : Int) := by rw [Int.tmod_eq_emod_of_nonneg (by omega)]; omega
            have i6 : ¬ (o : Int) < 0 := by omega
            have i7 : ¬ (64 : Int) ≤ (o : Int) := by omega
            have hc25 : (c : Int) < 25 := by omega
            have hk32 : (k : Int) < 32 := by omega
            have ho56 : (o : Int) ≤ 56 := by omega
            clear hhash hc1 hr ho
            have q1 : wr.cell? ⟨w4.heap.size, c, none⟩ = some (.int .u64 (b c : Nat)) := (hA.cell _).trans (row_get _ _ _ _ (by omega))
            go_wp2_with fail
            have hwb : IntKind.u8.wrap ((b c : Int) / 2 ^ o) = (((str h)[k]'hks).toNat : Int) := by
              rw [hkb, IntKind.wrap_u8, show ((b c : Int) / 2 ^ o) = ((b c / 2 ^ o : Nat) : Int) from by simp]
              omega
            clear hkb
            go_still (by kernel_rfl)
            change Exit.then _ _ _ _ wr.drew
            have hA2 := hA.drew
            have hB2 := hB.drew
            generalize wr.drew = wd at *
            go_wp2_with fail
            exact ⟨⟨k + 1, by omega, by go_num, hA2, hB2⟩, by simp [intOf]; omega⟩
          · obtain rfl : k = 32 := by omega
            clear hhash
            go_wp2_with fail
            go_ret
            exact ⟨rfl, hB⟩
  · go_enter Tryd.func8, Tryd.ntmps8
    go_wp2_with fail
    refine (awake_any w hT).mono ?_
    rintro e w1 ⟨rfl, hb1⟩
    go_wp2_with fail
    refine (Hp _).mono ?_
    rintro e w2 ⟨rfl, hb2⟩
    have hB2 : Below w.heap.size w w2 := hb1.trans (hb2.mono hb1.size)
    clear Hp hb1 hb2
    go_wp2_with fail
    refine wp_abs (fun W => Holds_ W w2.heap.size 24 (lanesV (Kec.orTo p 0)) ∧ Below w.heap.size w W) ?f2 ?g2
    case f2 => exact ⟨by rw [Kec.orTo_none]; exact Holds_.new w2 24 (lanesV Kec.zero), hB2.alloc hB2.size _⟩
    rintro W ⟨hA, hB⟩
    have hsz := hB2.size
    go_loopw [7] (fun t wr => ∃ k : Nat, k ≤ 136 ∧ t = .int .i64 k ∧ Holds_ wr w2.heap.size 24 (lanesV (Kec.orTo p k)) ∧ Below w.heap.size w wr)
      (fun t _ => 136 - (intOf t).toNat)
    case atStart => exact ⟨0, by omega, rfl, hA, hB⟩
    case round =>
      obtain ⟨k, hk, rfl, hA, hB⟩ := hrel
      by_cases hlt : k < 136
      · obtain ⟨hks, hkb⟩ := hbyte k hlt
        have hstep := Kec.orTo_succ p k (by omega)
        have hv := Kec.byte_lt (p.getD k 0).toNat k (UInt8.toNat_lt _)
        rw [← hkb] at hstep hv
        have hn := Kec.pw_lt p 0 k (k / 8)
        have hn2 : Kec.orTo p k (k / 8) < 18446744073709551616 := hn
        obtain ⟨c, hc1⟩ : ∃ c, k / 8 = c := ⟨_, rfl⟩
        obtain ⟨r, hr⟩ : ∃ r, k % 8 = r := ⟨_, rfl⟩
        obtain ⟨o, ho⟩ : ∃ o, 8 * r = o := ⟨_, rfl⟩
        rw [hr, ho] at hv
        rw [hc1] at hn2
        rw [hc1, hr, ho] at hstep
        have i1 : (k : Int) / 8 = (c : Int) := by omega
        have i2 : (k : Int) % 8 = (r : Int) := by omega
        have i3 : IntKind.i64.wrap (8 * (r : Int)) = (o : Int) := (IntWalk.i64_in _ (by omega)).trans (by omega)
        have i4 : IntKind.i64.wrap (c : Int) = (c : Int) := IntWalk.i64_in _ (by omega)
        have i5 : (k : Int).tmod 8 = (r : Int) := by rw [Int.tmod_eq_emod_of_nonneg (by omega)]; omega
        have i6 : ¬ (o : Int) < 0 := by omega
        have i7 : ¬ (64 : Int) ≤ (o : Int) := by omega
        have hc25 : (c : Int) < 25 := by omega
        have ho56 : (o : Int) ≤ 56 := by omega
        have hk136 : (k : Int) < 136 := by omega
        have HS := Lib.hid hstep
        have hx256 : ((str p)[k]'hks).toNat < 256 := UInt8.toNat_lt _
        clear hstep hkb hbyte hhash hc1 hr ho hn
        have q1 : wr.cell? ⟨w2.heap.size, c, none⟩ = some (.int .u64 (Kec.orTo p k c : Nat)) := (hA.cell _).trans (row_get _ _ _ _ (by omega))
        have q2 : wr.frozen? ⟨w2.heap.size, c, none⟩ = false := hA.free _
        have hlow := low_bits (Kec.orTo p k c) ((str p)[k]'hks).toNat o hn2 hx256 hv
        go_wp2_with fail
        go_still_tail 16, (by kernel_rfl)
        change wpList _ _ _ _ _ wr.drew
        have hA2 := hA.drew
        have hB2 := hB.drew
        have q3 : wr.drew.cell? ⟨w2.heap.size, c, none⟩ = some (.int .u64 (Kec.orTo p k c : Nat)) := q1
        have q4 : wr.drew.frozen? ⟨w2.heap.size, c, none⟩ = false := q2
        generalize wr.drew = wd at *
        clear q1 q2 hlow
        go_wp2_with fail
        refine ⟨⟨k + 1, by omega, by go_num, ?_, ?_⟩, by simp [intOf]; omega⟩
        · rw [HS.out]
          exact hA2.putN c _ (by omega)
        · exact hB2.setCell (p := ⟨w2.heap.size, c, none⟩) (by simp; omega) _
      · obtain rfl : k = 136 := by omega
        go_wp2_with (with_reducible show wpList _ _ _ (⟨some 43, _, _, _, _, _⟩ :: _) _ _; refine wpList_loadRow rfl 24 _ rfl w2.heap.size rfl 24 _ _ hA Tryd.underlying24 rfl (by rw [row_size]; exact info24) ?_)
        refine (Hperm _ (hT.below hB)).mono ?_
        rintro e w4 ⟨rfl, hb4⟩
        have hB4 := hB.trans (hb4.mono hB.size)
        clear Hperm hb4 hbyte hA
        go_wp2_with (with_reducible show wpList _ _ _ (⟨none, _, _, _, _, _⟩ :: _) _ _; refine wpList_storeRow rfl 24 _ _ rfl w4.heap.size _ rfl rfl 24 _ (Holds_.new w4 24 _) (by rw [row_size]; exact info24) (by simp [row_size]) (row_one _ _ _) ?_)
        refine calls_abs (fun V => Holds_ V w4.heap.size 24 (lanesV b) ∧ Below w.heap.size w V) ?f3 ?g3
        case f3 => exact ⟨(Holds_.new w4 24 _).putRow _, below_putRow (hB4.alloc hB4.size _) hB4.size _⟩
        rintro W5 ⟨hN5, hB5⟩
        refine (Hs _ (hT.below hB5)).mono ?_
        rintro e w6 ⟨rfl, hb6⟩
        have hN6 := hN5.below hb6 hN5.lt
        have hB6 := hB5.trans (hb6.mono hB5.size)
        clear Hs hb6 hN5 hB5
        go_wp2_with fail
        go_loopw [11] (fun t wr => ∃ k : Nat, k ≤ 32 ∧ t = .int .i64 k ∧ Holds_ wr w4.heap.size 24 (lanesV b) ∧ Below w.heap.size w wr)
          (fun t _ => 32 - (intOf t).toNat)
        case atStart => exact ⟨0, by omega, rfl, hN6, hB6⟩
        case round =>
          obtain ⟨k, hk, rfl, hA, hB⟩ := hrel
          by_cases hlt : k < 32
          · obtain ⟨hks, hkb⟩ := hhash k hlt
            obtain ⟨c, hc1⟩ : ∃ c, k / 8 = c := ⟨_, rfl⟩
            obtain ⟨r, hr⟩ : ∃ r, k % 8 = r := ⟨_, rfl⟩
            obtain ⟨o, ho⟩ : ∃ o, 8 * r = o := ⟨_, rfl⟩
            rw [hc1, hr, ho] at hkb
            have i1 : (k : Int) / 8 = (c : Int) := by omega
            have i2 : (k : Int) % 8 = (r : Int) := by omega
            have i3 : IntKind.i64.wrap (8 * (r : Int)) = (o : Int) := (IntWalk.i64_in _ (by omega)).trans (by omega)
            have i4 : IntKind.i64.wrap (c : Int) = (c : Int) := IntWalk.i64_in _ (by omega)
            have i5 : (k : Int).tmod 8 = (r : Int) := by rw [Int.tmod_eq_emod_of_nonneg (by omega)]; omega
            have i6 : ¬ (o : Int) < 0 := by omega
            have i7 : ¬ (64 : Int) ≤ (o : Int) := by omega
            have hc25 : (c : Int) < 25 := by omega
            have hk32 : (k : Int) < 32 := by omega
            have ho56 : (o : Int) ≤ 56 := by omega
            clear hhash hc1 hr ho
            have q1 : wr.cell? ⟨w4.heap.size, c, none⟩ = some (.int .u64 (b c : Nat)) := (hA.cell _).trans (row_get _ _ _ _ (by omega))
            go_wp2_with fail
            have hwb : IntKind.u8.wrap ((b c : Int) / 2 ^ o) = (((str h)[k]'hks).toNat : Int) := by
              rw [hkb, IntKind.wrap_u8, show ((b c : Int) / 2 ^ o) = ((b c / 2 ^ o : Nat) : Int) from by simp]
              omega
            clear hkb
            go_still (by kernel_rfl)
            change Exit.then _ _ _ _ wr.drew
            have hA2 := hA.drew
            have hB2 := hB.drew
            generalize wr.drew = wd at *
            go_wp2_with fail
            exact ⟨⟨k + 1, by omega, by go_num, hA2, hB2⟩, by simp [intOf]; omega⟩
          · obtain rfl : k = 32 := by omega
            clear hhash
            go_wp2_with fail
            go_ret
            exact ⟨rfl, hB⟩
theorem one_str (s : ByteArray) (hs : s.size ≤ maxLen) (w : World) (hT : Table w) :
    Calls Tryd.prog 8 #[.string s] w fun e W' => e = .returned (.bool true) ∧ Below w.heap.size w W' := by
  have h := one_true s.data.toList (by simpa [maxLen] using hs) w hT
  rw [str_of] at h
  exact h
end Go.Proofs.YtblfodhbimgonaaDoor
