/- ShaApart, by its walk. -/
import Derived.Test.YtkgbecgdappjoaaDoorLc
namespace Go.Proofs.YtkgbecgdappjoaaDoor
open Go.RowKit Go.Shelf
set_option linter.unusedVariables false
set_option linter.unusedSimpArgs false

theorem madeCells_bytes (n : Nat) : madeCells (Value.int .u8 0).cells n = (bytesV (List.replicate n 0)).toArray := by
  have hl : (bytesV (List.replicate n 0)).length = n := by rw [bytesV_length, List.length_replicate]
  have hz : ∀ i, i < n → (madeCells (Value.int .u8 0).cells n)[i]? = some (.int .u8 0) := by
    intro i hi
    simp only [madeCells, Value.cells]
    rw [Array.getElem?_map]
    simp [hi, Nat.mod_one]
  apply Array.ext_getElem?
  intro i
  by_cases hi : i < n
  · rw [hz i hi]
    have := bytesV_get (List.replicate n 0) i (by rw [List.length_replicate]; exact hi)
    simp at this
    simp [this]
  · rw [Array.getElem?_eq_none (by rw [size_madeCells]; omega), Array.getElem?_eq_none (by rw [List.size_toArray, hl]; omega)]
theorem run_zeros (n : Nat) (hn : n ≤ 2000000) (W : World) : (Instr.makeSlice 26 (.int .i64 (n : Int)) (.int .i64 (n : Int))).run Tryd.prog W = .ok (.slice (some ⟨W.heap.size, 0, none⟩) n n) (W.alloc (.cells (bytesV (List.replicate n 0)).toArray 5)) := by
  obtain ⟨i5, hi5, hz0, hz1, hz2⟩ := info_parts info5
  have h := run_make (P := Tryd.prog) W 26 5 i5 _ Tryd.underlying26 hi5 hz0 .i64 .i64 n n (by omega) (by omega) (by rw [hz2]; omega) (by omega)
  rw [hz1, Nat.mul_one] at h
  simp only [Int.toNat_natCast] at h
  rw [h, madeCells_bytes]
theorem Sl.of_zeros (n : Nat) (hn : n ≤ 2000000) (W : World) : Sl (W.alloc (.cells (bytesV (List.replicate n 0)).toArray 5)) W.heap.size 5 1 (.slice (some ⟨W.heap.size, 0, none⟩) n n) n (bytesV (List.replicate n 0)) := by
  have hl : (bytesV (List.replicate n 0)).length = n := by rw [bytesV_length, List.length_replicate]
  refine ⟨by rw [hl, Nat.mul_one], .inr ⟨W.heap.size, n, _, (0, 0), rfl, Nat.le_refl _, heap_alloc_new W _, .inr rfl, Nat.le_refl _, by unfold maxLen; omega, by rw [List.size_toArray, hl, Nat.mul_one], ?_⟩⟩
  exact List.take_of_length_le (by simp [bytesV_length])
theorem run_zstring (n : Nat) (hn : n ≤ 2000000) (W : World) : (convert 26 9 (.slice (some ⟨W.heap.size, 0, none⟩) n n)).run Tryd.prog (W.alloc (.cells (bytesV (List.replicate n 0)).toArray 5)) = .ok (.string (str (List.replicate n 0))) (W.alloc (.cells (bytesV (List.replicate n 0)).toArray 5)) :=
  run_string_of_Sl (P := Tryd.prog) 26 9 5 Tryd.underlying26 Tryd.underlying5 Tryd.underlying9 (Sl.of_zeros n hn W)

theorem cost_off (f : Nat → Nat) (many : Int) (h : many < 0 ∨ 1048576 < many) (hm : -9223372036854775808 ≤ many) (hm2 : many ≤ 9223372036854775807) (w : World) :
    Calls Tryd.prog 13 #[.agg (wordV f), .int .i64 many] w fun e W' => ∃ c, e = .returned (.tuple #[.int .i64 c, .bool false]) ∧ Below w.heap.size w W' := by
  have e : costB f many = false := by
    have : inB many = false := by unfold inB; simp; omega
    simp [costB, this]
  have h := cost_any f many hm hm2 w
  rw [e] at h
  exact h.mono fun e W' he => ⟨_, he.1, he.2⟩

set_option maxRecDepth 100000 in
set_option maxHeartbeats 8000000 in
theorem apart_true (a : Nat → Nat) (n : Int) (hm : -9223372036854775808 ≤ n) (hm2 : n ≤ 9223372036854775807) (w : World) (hT : Table w) :
    Calls Tryd.prog 6 #[.agg (wordV a), .int .i64 n] w fun e W' => e = .returned (.bool true) ∧ Below w.heap.size w W' := by
  have hT0 := hT.pos
  obtain ⟨k, hk, hpick⟩ := pick_nat n 9 w (by decide) (by decide) hm hm2
  have hpick' : ∀ w, Calls Tryd.prog 9 #[.int .i64 n, .int .i64 9] w fun e W' => e = .returned (.int .i64 k) ∧ w = W' := hpick
  have hcost := cost_any a k (by omega) (by omega)
  have hrun := fun w hT => run_any a [116, 101, 120, 116] (by decide) 100000 (by decide) (by decide) w hT
  have eB : costB a k = (same4 a (ofN 2) || same4 a (ofN 4)) := by
    have : inB k = true := by unfold inB; simp; omega
    simp [costB, this]
  have eI : (same4 a (ofN 2) || same4 a (ofN 4)) = false → costI a k = 0 := by
    intro h
    simp only [Bool.or_eq_false_iff] at h
    simp [costI, h.1, h.2]
  have eG : goesB a [116, 101, 120, 116] 100000 = (same4 a (ofN 2) || same4 a (ofN 4)) := by
    have h1 : costB a (([116, 101, 120, 116] : List UInt8).length : Nat) = (same4 a (ofN 2) || same4 a (ofN 4)) := by
      have : inB (4 : Nat) = true := by decide
      show costB a (4 : Nat) = _
      unfold costB
      rw [this, Bool.true_and]
    have h2 : costI a (([116, 101, 120, 116] : List UInt8).length : Nat) ≤ 100000 := by
      show costI a (4 : Nat) ≤ 100000
      unfold costI
      split
      · split
        · decide
        · split <;> decide
      · decide
    unfold goesB
    rw [h1, decide_eq_true h2, Bool.and_true]
  rw [eG] at hrun
  have hcost' : ∀ w, Calls Tryd.prog 13 #[.agg (wordV a), .int .i64 k] w fun e W' => e = .returned (.tuple #[.int .i64 (costI a k), .bool (same4 a (ofN 2) || same4 a (ofN 4))]) ∧ Below w.heap.size w W' := fun w => by
    have h := hcost w
    rw [eB] at h
    exact h
  have e2 : ∀ W, (Op.equalIn 10000 24 (.agg (wordV a)) (.agg (wordV (ofN 2)))).run Tryd.prog W = .ok (same4 a (ofN 2)) W := fun W => run_equalIn_word W _ _
  have e4 : ∀ W, (Op.equalIn 10000 24 (.agg (wordV a)) (.agg (wordV (ofN 4)))).run Tryd.prog W = .ok (same4 a (ofN 4)) W := fun W => run_equalIn_word W _ _
  have hr2 : ∀ w, Calls Tryd.prog 12 #[.int .i64 2] w fun e W' => e = .returned (.agg (wordV (ofN 2))) ∧ Below w.heap.size w W' := ref_of 2 (by decide)
  have hr4 : ∀ w, Calls Tryd.prog 12 #[.int .i64 4] w fun e W' => e = .returned (.agg (wordV (ofN 4))) ∧ Below w.heap.size w W' := ref_of 4 (by decide)
  obtain ⟨m1, hm1⟩ : ∃ m : Int, -1 - (k : Int) = m := ⟨_, rfl⟩
  obtain ⟨p1, hp1⟩ : ∃ p, 1048577 + k = p := ⟨_, rfl⟩
  have i1 : IntKind.i64.wrap (-1 - (k : Int)) = m1 := (IntWalk.i64_in _ (by omega)).trans hm1
  have i2 : IntKind.i64.wrap (1048577 + (k : Int)) = (p1 : Int) := (IntWalk.i64_in _ (by omega)).trans (by omega)
  have S4 := fun w hT => stops_4 [] (by decide) m1 15 (by decide) (by omega) (by omega) (by omega) w hT
  have O1 := fun w => cost_off (ofN 2) p1 (.inr (by omega)) (by omega) (by omega) w
  have O2 := fun w => cost_off (ofN 2) m1 (.inl (by omega)) (by omega) (by omega) w
  have L := fun w => sum_long (str (List.replicate p1 0)) (by rw [str_size, List.length_replicate]; omega) (by rw [str_size, List.length_replicate]; omega) w
  have Z := fun W => run_zeros p1 (by omega) W
  have ZS := fun W => run_zstring p1 (by omega) W
  generalize costI a k = ck at *
  generalize runL a [116, 101, 120, 116] 100000 = rl at *
  generalize runI a [116, 101, 120, 116] 100000 = ri at *
  generalize same4 a (ofN 2) = r2 at *
  generalize same4 a (ofN 4) = r4 at *
  generalize ofN 2 = f2 at *
  generalize ofN 4 = f4 at *
  generalize str (List.replicate p1 0) = zs at *
  have hp2 : p1 ≤ 2000000 := by omega
  clear hm1 hp1 hpick hcost eB eG
  have hA := Holds_.new w 24 (wordV a)
  have hB : Below w.heap.size w (w.alloc (.cells (wordV a) 24)) := (Below.refl _ _).alloc (Nat.le_refl _) _
  go_enter Tryd.func6, Tryd.ntmps6
  go_wp2_with fail
  refine (awake_any _ (hT.below hB hT0)).mono ?_
  rintro e w1 ⟨rfl, hb1⟩
  have hA1 := hA.below hb1 hA.lt
  have B1 := hB.trans (hb1.mono hB.size)
  clear hb1 hA hB
  go_wp2_with fail
  refine (hpick' _).mono ?_
  rintro e w2 ⟨rfl, rfl⟩
  go_wp2_with (with_reducible show wpList _ _ _ (⟨some 27, _, _, _, _, _⟩ :: _) _ _; refine wpList_loadRow rfl 24 _ rfl w.heap.size rfl 24 _ _ hA1 Tryd.underlying24 rfl (by rw [row_size]; exact info24) ?_)
  refine (hcost' _).mono ?_
  rintro e w2 ⟨rfl, hb2⟩
  have hA2 := hA1.below hb2 hA1.lt
  have B2 := B1.trans (hb2.mono B1.size)
  clear hb2 hA1 B1
  go_wp2_with fail
  let C : World → Prop := fun W => Holds_ W w.heap.size 24 (wordV a) ∧ Below w.heap.size w W
  have hc2 : ∀ W : World, C W → Calls Tryd.prog 12 #[.int .i64 2] W fun e W' => e = .returned (.agg (wordV f2)) ∧ C W' := fun W hW => (hr2 W).mono fun e W' h => ⟨h.1, hW.1.below h.2 hW.1.lt, hW.2.trans (h.2.mono hW.2.size)⟩
  have hc4 : ∀ W : World, C W → Calls Tryd.prog 12 #[.int .i64 4] W fun e W' => e = .returned (.agg (wordV f4)) ∧ C W' := fun W hW => (hr4 W).mono fun e W' h => ⟨h.1, hW.1.below h.2 hW.1.lt, hW.2.trans (h.2.mono hW.2.size)⟩
  refine wp_region_quiet_class C (by kernel_rfl) (by kernel_rfl) ⟨hA2.drew, B2.drew⟩ ?_
  refine BigFrame.wpQuiet_want rfl (fun K hK => ?_)
  refine quiet_load_row 24 _ rfl w.heap.size rfl 24 (wordV a) _ (fun W hW => hW.1) Tryd.underlying24 rfl (by rw [row_size]; exact info24) ?_
  go_simp; refine hK _ ?_; clear hK K
  refine BigFrame.wpQuiet_want rfl (fun K hK => ?_)
  refine BigFrame.quiet_move _ rfl ?_
  go_simp; refine hK _ ?_; clear hK K
  refine BigFrame.wpQuiet_want rfl (fun K hK => ?_)
  refine quiet_call 12 #[.int .i64 2] _ (fun W hW => by go_simp) hc2 ?_
  go_simp; refine hK _ ?_; clear hK K
  refine BigFrame.wpQuiet_want rfl (fun K hK => ?_)
  refine quiet_run (.bool r2) (fun W hW => by go_simp) ?_
  go_simp; refine hK _ ?_; clear hK K
  refine BigFrame.wpQuiet_want rfl (fun K hK => ?_)
  refine BigFrame.quiet_move _ rfl ?_
  go_simp; refine hK _ ?_; clear hK K
  cases r2 with
  | true =>
    iterate 4 (refine BigFrame.wpQuiet_skip rfl ?_; go_simp)
    refine BigFrame.wpQuiet_want rfl (fun K hK => ?_)
    refine quiet_run (.bool true) (fun W hW => by go_simp) ?_
    go_simp; refine hK _ ?_; clear hK K
    refine BigFrame.wpQuiet_want rfl (fun K hK => ?_)
    refine quiet_run (.bool true) (fun W hW => by go_simp) ?_
    go_simp; refine hK _ ?_; clear hK K
    refine wpQuiet_nil ?_
    rintro W2 ⟨hA3, B3⟩
    have hrun' := fun w hT => hrun w hT
    simp only [Bool.true_or, Bool.false_or] at hrun'
    have hT3 := hT.below B3 hT0
    go_wp2_with (with_reducible show wpList _ _ _ (⟨some 43, _, _, _, _, _⟩ :: _) _ _; refine wpList_loadRow rfl 24 _ rfl w.heap.size rfl 24 _ _ hA3 Tryd.underlying24 rfl (by rw [row_size]; exact info24) ?_)
    refine (hrun' _ hT3).mono ?_
    rintro e w3 ⟨rfl, hb3⟩
    have B4 := B3.trans (hb3.mono B3.size)
    clear hb3 B3 hA3 hT3 hrun' hrun
    go_wp2_with fail
    refine (hr4 _).mono ?_
    rintro e w4 ⟨rfl, hb4⟩
    have B5 := B4.trans (hb4.mono B4.size)
    clear hb4 B4
    go_wp2_with fail
    refine (S4 _ (hT.below B5 hT0)).mono ?_
    rintro e w5 ⟨rfl, hb5⟩
    have B6 := B5.trans (hb5.mono B5.size)
    clear hb5 B5
    go_wp2_with fail
    refine (hr2 _).mono ?_
    rintro e w6 ⟨rfl, hb6⟩
    have B7 := B6.trans (hb6.mono B6.size)
    clear hb6 B6
    go_wp2_with fail
    refine (O1 _).mono ?_
    rintro e w7 ⟨c7, rfl, hb7⟩
    have B8 := B7.trans (hb7.mono B7.size)
    clear hb7 B7
    go_wp2_with fail
    refine (hr2 _).mono ?_
    rintro e w8 ⟨rfl, hb8⟩
    have B9 := B8.trans (hb8.mono B8.size)
    clear hb8 B8
    go_wp2_with fail
    refine (O2 _).mono ?_
    rintro e w9 ⟨c9, rfl, hb9⟩
    have B10 := B9.trans (hb9.mono B9.size)
    clear hb9 B9
    go_wp2_with fail
    refine (L _).mono ?_
    rintro e w10 ⟨rfl, rfl⟩
    have B11 := B10.alloc B10.size (.cells (bytesV (List.replicate p1 0)).toArray 5)
    go_wp2_with fail
    go_ret
    exact ⟨rfl, B11⟩
  | false =>
    refine BigFrame.wpQuiet_want rfl (fun K hK => ?_)
    refine quiet_load_row 24 _ rfl w.heap.size rfl 24 (wordV a) _ (fun W hW => hW.1) Tryd.underlying24 rfl (by rw [row_size]; exact info24) ?_
    go_simp; refine hK _ ?_; clear hK K
    refine BigFrame.wpQuiet_want rfl (fun K hK => ?_)
    refine BigFrame.quiet_move _ rfl ?_
    go_simp; refine hK _ ?_; clear hK K
    refine BigFrame.wpQuiet_want rfl (fun K hK => ?_)
    refine quiet_call 12 #[.int .i64 4] _ (fun W hW => by go_simp) hc4 ?_
    go_simp; refine hK _ ?_; clear hK K
    refine BigFrame.wpQuiet_want rfl (fun K hK => ?_)
    refine quiet_run (.bool r4) (fun W hW => by go_simp) ?_
    go_simp; refine hK _ ?_; clear hK K
    refine BigFrame.wpQuiet_want rfl (fun K hK => ?_)
    refine quiet_run (.bool r4) (fun W hW => by go_simp) ?_
    go_simp; refine hK _ ?_; clear hK K
    refine BigFrame.wpQuiet_want rfl (fun K hK => ?_)
    refine quiet_run (.bool r4) (fun W hW => by go_simp) ?_
    go_simp; refine hK _ ?_; clear hK K
    refine wpQuiet_nil ?_
    rintro W2 ⟨hA3, B3⟩
    cases r4 with
    | true =>
      have hrun' := fun w hT => hrun w hT
      simp only [Bool.true_or, Bool.false_or] at hrun'
      have hT3 := hT.below B3 hT0
      go_wp2_with (with_reducible show wpList _ _ _ (⟨some 43, _, _, _, _, _⟩ :: _) _ _; refine wpList_loadRow rfl 24 _ rfl w.heap.size rfl 24 _ _ hA3 Tryd.underlying24 rfl (by rw [row_size]; exact info24) ?_)
      refine (hrun' _ hT3).mono ?_
      rintro e w3 ⟨rfl, hb3⟩
      have B4 := B3.trans (hb3.mono B3.size)
      clear hb3 B3 hA3 hT3 hrun' hrun
      go_wp2_with fail
      refine (hr4 _).mono ?_
      rintro e w4 ⟨rfl, hb4⟩
      have B5 := B4.trans (hb4.mono B4.size)
      clear hb4 B4
      go_wp2_with fail
      refine (S4 _ (hT.below B5 hT0)).mono ?_
      rintro e w5 ⟨rfl, hb5⟩
      have B6 := B5.trans (hb5.mono B5.size)
      clear hb5 B5
      go_wp2_with fail
      refine (hr2 _).mono ?_
      rintro e w6 ⟨rfl, hb6⟩
      have B7 := B6.trans (hb6.mono B6.size)
      clear hb6 B6
      go_wp2_with fail
      refine (O1 _).mono ?_
      rintro e w7 ⟨c7, rfl, hb7⟩
      have B8 := B7.trans (hb7.mono B7.size)
      clear hb7 B7
      go_wp2_with fail
      refine (hr2 _).mono ?_
      rintro e w8 ⟨rfl, hb8⟩
      have B9 := B8.trans (hb8.mono B8.size)
      clear hb8 B8
      go_wp2_with fail
      refine (O2 _).mono ?_
      rintro e w9 ⟨c9, rfl, hb9⟩
      have B10 := B9.trans (hb9.mono B9.size)
      clear hb9 B9
      go_wp2_with fail
      refine (L _).mono ?_
      rintro e w10 ⟨rfl, rfl⟩
      have B11 := B10.alloc B10.size (.cells (bytesV (List.replicate p1 0)).toArray 5)
      go_wp2_with fail
      go_ret
      exact ⟨rfl, B11⟩
    | false =>
      have ck0 : ck = 0 := eI rfl
      subst ck0
      have hrun' := fun w hT => hrun w hT
      simp only [Bool.true_or, Bool.false_or] at hrun'
      have hT3 := hT.below B3 hT0
      go_wp2_with (with_reducible show wpList _ _ _ (⟨some 43, _, _, _, _, _⟩ :: _) _ _; refine wpList_loadRow rfl 24 _ rfl w.heap.size rfl 24 _ _ hA3 Tryd.underlying24 rfl (by rw [row_size]; exact info24) ?_)
      refine (hrun' _ hT3).mono ?_
      rintro e w3 ⟨rfl, hb3⟩
      have B4 := B3.trans (hb3.mono B3.size)
      clear hb3 B3 hA3 hT3 hrun' hrun
      go_wp2_with fail
      refine (hr4 _).mono ?_
      rintro e w4 ⟨rfl, hb4⟩
      have B5 := B4.trans (hb4.mono B4.size)
      clear hb4 B4
      go_wp2_with fail
      refine (S4 _ (hT.below B5 hT0)).mono ?_
      rintro e w5 ⟨rfl, hb5⟩
      have B6 := B5.trans (hb5.mono B5.size)
      clear hb5 B5
      go_wp2_with fail
      refine (hr2 _).mono ?_
      rintro e w6 ⟨rfl, hb6⟩
      have B7 := B6.trans (hb6.mono B6.size)
      clear hb6 B6
      go_wp2_with fail
      refine (O1 _).mono ?_
      rintro e w7 ⟨c7, rfl, hb7⟩
      have B8 := B7.trans (hb7.mono B7.size)
      clear hb7 B7
      go_wp2_with fail
      refine (hr2 _).mono ?_
      rintro e w8 ⟨rfl, hb8⟩
      have B9 := B8.trans (hb8.mono B8.size)
      clear hb8 B8
      go_wp2_with fail
      refine (O2 _).mono ?_
      rintro e w9 ⟨c9, rfl, hb9⟩
      have B10 := B9.trans (hb9.mono B9.size)
      clear hb9 B9
      go_wp2_with fail
      refine (L _).mono ?_
      rintro e w10 ⟨rfl, rfl⟩
      have B11 := B10.alloc B10.size (.cells (bytesV (List.replicate p1 0)).toArray 5)
      go_wp2_with fail
      go_ret
      exact ⟨rfl, B11⟩
end Go.Proofs.YtkgbecgdappjoaaDoor
