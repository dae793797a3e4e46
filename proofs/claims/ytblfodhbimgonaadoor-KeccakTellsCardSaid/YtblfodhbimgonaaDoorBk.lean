/- KeccakTells, by its walk. -/
import Derived.Test.YtblfodhbimgonaaDoorBj
import Derived.Test.YtblfodhbimgonaaDoorLp
import Derived.Test.YtblfodhbimgonaaDoorLu
namespace Go.Proofs.YtblfodhbimgonaaDoor
open Go.RowKit Go.Shelf
set_option linter.unusedVariables false
set_option linter.unusedSimpArgs false

theorem rperm_any (a : Nat → Nat) (ha : Kec.Ok a) (w : World) :
    Calls Tryd.prog 12 #[.agg (lanesV a)] w fun e W' => e = .returned (.agg (lanesV (Kec.perm a))) ∧ Below w.heap.size w W' := by
  rw [← lanes_congr (fun j hj => permB_eq a ha j hj)]
  exact rpermute_any a ha w

set_option maxRecDepth 100000 in
set_option maxHeartbeats 8000000 in
theorem tells_true (a : Nat → Nat) (ha : Kec.Ok a) (l : List UInt8) (hl : l.length ≤ 9223372036854775807) (n : Int) (hn : -9223372036854775808 ≤ n ∧ n ≤ 9223372036854775807) (w : World) (hT : Table w) :
    Calls Tryd.prog 3 #[.agg (lanesV a), .string (str l), .int .i64 n] w fun e W' => e = .returned (.bool true) ∧ Below w.heap.size w W' := by
  obtain ⟨x, hx, key⟩ : ∃ x : List UInt8, x.length ≤ 600 ∧ ((600 < l.length ∧ (str l).extract 0 600 = str x) ∨ (l.length ≤ 600 ∧ l = x)) := by
    by_cases h : 600 < l.length
    · exact ⟨l.take 600, by rw [List.length_take]; omega, .inl ⟨h, str_cut l 600⟩⟩
    · exact ⟨l, by omega, .inr ⟨by omega, rfl⟩⟩
  obtain ⟨k, hk, hpk⟩ := pick_nat n 300 w (by omega) (by omega) hn.1 hn.2
  have hpk' : ∀ w, Calls Tryd.prog 13 #[.int .i64 n, .int .i64 300] w fun e W' => e = .returned (.int .i64 k) ∧ w = W' := hpk
  clear hpk
  have s1 := str_size l
  have hmk := run_zeros k (by omega)
  have hst := run_zstring k (by omega)
  have hzl : (List.replicate k (0 : UInt8)).length ≤ 600 := by rw [List.length_replicate]; omega
  generalize List.replicate k (0 : UInt8) = y at *
  have hA0 := Holds_.new w 24 (lanesV a)
  have B0 := (Below.refl w.heap.size w).alloc (Nat.le_refl _) (.cells (lanesV a) 24)
  rcases key with ⟨hc, hcut⟩ | ⟨hc, rfl⟩
  · have hc' : (600 : Int) < (l.length : Int) := by omega
    go_enter Tryd.func3, Tryd.ntmps3
    go_wp2_with fail
    refine (awake_any _ (hT.below B0)).mono ?_
    rintro e w1 ⟨rfl, hb⟩
    have hA := hA0.below hb hA0.lt
    have B1 := B0.trans (hb.mono B0.size)
    clear hb hA0 B0
    go_wp2_with fail
    have hc1 : ∀ W : World, (Holds_ W w.heap.size 24 (lanesV a) ∧ Below w.heap.size w W) → Calls Tryd.prog 11 #[.agg (lanesV a)] W fun e W' => e = .returned (.agg (lanesV (Kec.perm a))) ∧ (Holds_ W' w.heap.size 24 (lanesV a) ∧ Below w.heap.size w W') := fun W hW =>
      (permute_any a ha W (hT.below hW.2)).mono fun e W' h => ⟨h.1, hW.1.below h.2 hW.1.lt, hW.2.trans (h.2.mono hW.2.size)⟩
    have hc2 : ∀ W : World, (Holds_ W w.heap.size 24 (lanesV a) ∧ Below w.heap.size w W) → Calls Tryd.prog 12 #[.agg (lanesV a)] W fun e W' => e = .returned (.agg (lanesV (Kec.perm a))) ∧ (Holds_ W' w.heap.size 24 (lanesV a) ∧ Below w.heap.size w W') := fun W hW =>
      (rperm_any a ha W).mono fun e W' h => ⟨h.1, hW.1.below h.2 hW.1.lt, hW.2.trans (h.2.mono hW.2.size)⟩
    have e1 : ∀ W, (Op.equalIn 10000 24 (.agg (lanesV (Kec.perm a))) (.agg (lanesV (Kec.perm a)))).run Tryd.prog W = .ok true W := fun W => by
      rw [run_equalIn_lanes]
      have h : same25 (Kec.perm a) (Kec.perm a) = true := (sameI_eq _ _ _).2 (fun _ _ => rfl)
      rw [h]
    generalize Kec.perm a = pa at *
    refine wp_region_quiet_class (fun W => Holds_ W w.heap.size 24 (lanesV a) ∧ Below w.heap.size w W) (by kernel_rfl) (by kernel_rfl) ⟨hA.drew, B1.drew⟩ ?_
    refine BigFrame.wpQuiet_want rfl (fun K hK => ?_)
    refine quiet_load_row 24 _ rfl w.heap.size rfl 24 (lanesV a) _ (fun W hW => hW.1) Tryd.underlying24 rfl (by rw [row_size]; exact info24) ?_
    go_simp; refine hK _ ?_; clear hK K
    refine BigFrame.wpQuiet_want rfl (fun K hK => ?_)
    refine quiet_call 11 #[.agg (lanesV a)] _ (fun W hW => by go_simp) hc1 ?_
    go_simp; refine hK _ ?_; clear hK K
    refine BigFrame.wpQuiet_want rfl (fun K hK => ?_)
    refine quiet_load_row 24 _ rfl w.heap.size rfl 24 (lanesV a) _ (fun W hW => hW.1) Tryd.underlying24 rfl (by rw [row_size]; exact info24) ?_
    go_simp; refine hK _ ?_; clear hK K
    refine BigFrame.wpQuiet_want rfl (fun K hK => ?_)
    refine quiet_call 12 #[.agg (lanesV a)] _ (fun W hW => by go_simp) hc2 ?_
    go_simp; refine hK _ ?_; clear hK K
    refine BigFrame.wpQuiet_want rfl (fun K hK => ?_)
    refine quiet_run (.bool false) (fun W hW => by go_simp) ?_
    go_simp; refine hK _ ?_; clear hK K
    refine wpQuiet_nil ?_
    rintro W2 ⟨-, B2⟩
    clear hc1 hc2 e1 hA B1
    go_wp2_with fail
    refine (hpk' _).mono ?_
    rintro e w' ⟨rfl, rfl⟩
    clear hpk'
    go_wp2_with fail
    clear hmk hst
    refine wp_abs (fun W => Holds_ W (W2.heap.size + 1) 9 #[.string (str x), .string (str y)] ∧ Below w.heap.size w W) ?f0 ?g0
    case f0 =>
      have h := Holds_.new (W2.alloc (.cells (bytesV y).toArray 5)) 9 #[.string (str x), .string (str y)]
      simp only [World.size_alloc] at h
      exact ⟨h, (B2.alloc B2.size _).alloc (by have := B2.size; simp; omega) _⟩
    rintro W3 ⟨hH, B3⟩
    generalize W2.heap.size + 1 = gS at *
    clear B2
    go_loopw [36] (fun iv wr => ∃ j : Nat, j ≤ 2 ∧ iv = .int .i64 j ∧ Below W3.heap.size W3 wr) (fun iv _ => 2 - (intOf iv).toNat)
    case atStart => exact ⟨0, by omega, rfl, Below.refl _ _⟩
    case round =>
      obtain ⟨j, hj, rfl, hB⟩ := hrel
      have B4 := B3.trans (hB.mono B3.size)
      have hbs := hB.size
      by_cases hlt : j < 2
      · obtain ⟨t, hu, htl⟩ : ∃ t : List UInt8, (#[.string (str x), .string (str y)] : Array Value)[j]? = some (.string (str t)) ∧ t.length ≤ 600 := by
          match j, hlt with
          | 0, _ => exact ⟨x, rfl, hx⟩
          | 1, _ => exact ⟨y, rfl, hzl⟩
        have q0 := ((hH.below hB hH.lt).cell j).trans hu
        have j1 : (j : Int) < 2 := by omega
        have h1 := fun W hW => sum_str t (by omega) W hW
        have h2 := rsum_str t (by omega)
        have h3 := pad_str t (by omega)
        have h4 := rpad_str t (by omega)
        generalize str (Kec.sumL t) = S at *
        generalize str (Kec.padL t) = P at *
        generalize str t = ts at *
        clear hH hu
        go_wp2_with fail
        refine (h1 _ (hT.below B4)).mono ?_
        rintro e y1 ⟨rfl, hb⟩
        have hB := hB.trans (hb.mono hbs)
        have hbs := hB.size
        clear hb h1 q0
        go_wp2_with fail
        refine (h2 _).mono ?_
        rintro e y2 ⟨rfl, hb⟩
        have hB := hB.trans (hb.mono hbs)
        have hbs := hB.size
        clear hb h2
        go_wp2_with fail
        refine (h3 _).mono ?_
        rintro e y3 ⟨rfl, hb⟩
        have hB := hB.trans (hb.mono hbs)
        have hbs := hB.size
        clear hb h3
        go_wp2_with fail
        refine (h4 _).mono ?_
        rintro e y4 ⟨rfl, hb⟩
        have hB := hB.trans (hb.mono hbs)
        clear hb h4
        go_wp2_with fail
        go_roundw
        case rel => exact ⟨j + 1, by omega, by go_num, hB⟩
        case measure => simp [intOf]; omega
      · obtain rfl : j = 2 := by omega
        go_wp2_with fail
        go_ret
        exact ⟨rfl, B4⟩
  · have hc' : ¬ (600 : Int) < (l.length : Int) := by omega
    go_enter Tryd.func3, Tryd.ntmps3
    go_wp2_with fail
    refine (awake_any _ (hT.below B0)).mono ?_
    rintro e w1 ⟨rfl, hb⟩
    have hA := hA0.below hb hA0.lt
    have B1 := B0.trans (hb.mono B0.size)
    clear hb hA0 B0
    go_wp2_with fail
    have hc1 : ∀ W : World, (Holds_ W w.heap.size 24 (lanesV a) ∧ Below w.heap.size w W) → Calls Tryd.prog 11 #[.agg (lanesV a)] W fun e W' => e = .returned (.agg (lanesV (Kec.perm a))) ∧ (Holds_ W' w.heap.size 24 (lanesV a) ∧ Below w.heap.size w W') := fun W hW =>
      (permute_any a ha W (hT.below hW.2)).mono fun e W' h => ⟨h.1, hW.1.below h.2 hW.1.lt, hW.2.trans (h.2.mono hW.2.size)⟩
    have hc2 : ∀ W : World, (Holds_ W w.heap.size 24 (lanesV a) ∧ Below w.heap.size w W) → Calls Tryd.prog 12 #[.agg (lanesV a)] W fun e W' => e = .returned (.agg (lanesV (Kec.perm a))) ∧ (Holds_ W' w.heap.size 24 (lanesV a) ∧ Below w.heap.size w W') := fun W hW =>
      (rperm_any a ha W).mono fun e W' h => ⟨h.1, hW.1.below h.2 hW.1.lt, hW.2.trans (h.2.mono hW.2.size)⟩
    have e1 : ∀ W, (Op.equalIn 10000 24 (.agg (lanesV (Kec.perm a))) (.agg (lanesV (Kec.perm a)))).run Tryd.prog W = .ok true W := fun W => by
      rw [run_equalIn_lanes]
      have h : same25 (Kec.perm a) (Kec.perm a) = true := (sameI_eq _ _ _).2 (fun _ _ => rfl)
      rw [h]
    generalize Kec.perm a = pa at *
    refine wp_region_quiet_class (fun W => Holds_ W w.heap.size 24 (lanesV a) ∧ Below w.heap.size w W) (by kernel_rfl) (by kernel_rfl) ⟨hA.drew, B1.drew⟩ ?_
    refine BigFrame.wpQuiet_want rfl (fun K hK => ?_)
    refine quiet_load_row 24 _ rfl w.heap.size rfl 24 (lanesV a) _ (fun W hW => hW.1) Tryd.underlying24 rfl (by rw [row_size]; exact info24) ?_
    go_simp; refine hK _ ?_; clear hK K
    refine BigFrame.wpQuiet_want rfl (fun K hK => ?_)
    refine quiet_call 11 #[.agg (lanesV a)] _ (fun W hW => by go_simp) hc1 ?_
    go_simp; refine hK _ ?_; clear hK K
    refine BigFrame.wpQuiet_want rfl (fun K hK => ?_)
    refine quiet_load_row 24 _ rfl w.heap.size rfl 24 (lanesV a) _ (fun W hW => hW.1) Tryd.underlying24 rfl (by rw [row_size]; exact info24) ?_
    go_simp; refine hK _ ?_; clear hK K
    refine BigFrame.wpQuiet_want rfl (fun K hK => ?_)
    refine quiet_call 12 #[.agg (lanesV a)] _ (fun W hW => by go_simp) hc2 ?_
    go_simp; refine hK _ ?_; clear hK K
    refine BigFrame.wpQuiet_want rfl (fun K hK => ?_)
    refine quiet_run (.bool false) (fun W hW => by go_simp) ?_
    go_simp; refine hK _ ?_; clear hK K
    refine wpQuiet_nil ?_
    rintro W2 ⟨-, B2⟩
    clear hc1 hc2 e1 hA B1
    go_wp2_with fail
    refine (hpk' _).mono ?_
    rintro e w' ⟨rfl, rfl⟩
    clear hpk'
    go_wp2_with fail
    clear hmk hst
    refine wp_abs (fun W => Holds_ W (W2.heap.size + 1) 9 #[.string (str l), .string (str y)] ∧ Below w.heap.size w W) ?f1 ?g1
    case f1 =>
      have h := Holds_.new (W2.alloc (.cells (bytesV y).toArray 5)) 9 #[.string (str l), .string (str y)]
      simp only [World.size_alloc] at h
      exact ⟨h, (B2.alloc B2.size _).alloc (by have := B2.size; simp; omega) _⟩
    rintro W3 ⟨hH, B3⟩
    generalize W2.heap.size + 1 = gS at *
    clear B2
    go_loopw [36] (fun iv wr => ∃ j : Nat, j ≤ 2 ∧ iv = .int .i64 j ∧ Below W3.heap.size W3 wr) (fun iv _ => 2 - (intOf iv).toNat)
    case atStart => exact ⟨0, by omega, rfl, Below.refl _ _⟩
    case round =>
      obtain ⟨j, hj, rfl, hB⟩ := hrel
      have B4 := B3.trans (hB.mono B3.size)
      have hbs := hB.size
      by_cases hlt : j < 2
      · obtain ⟨t, hu, htl⟩ : ∃ t : List UInt8, (#[.string (str l), .string (str y)] : Array Value)[j]? = some (.string (str t)) ∧ t.length ≤ 600 := by
          match j, hlt with
          | 0, _ => exact ⟨l, rfl, hx⟩
          | 1, _ => exact ⟨y, rfl, hzl⟩
        have q0 := ((hH.below hB hH.lt).cell j).trans hu
        have j1 : (j : Int) < 2 := by omega
        have h1 := fun W hW => sum_str t (by omega) W hW
        have h2 := rsum_str t (by omega)
        have h3 := pad_str t (by omega)
        have h4 := rpad_str t (by omega)
        generalize str (Kec.sumL t) = S at *
        generalize str (Kec.padL t) = P at *
        generalize str t = ts at *
        clear hH hu
        go_wp2_with fail
        refine (h1 _ (hT.below B4)).mono ?_
        rintro e y1 ⟨rfl, hb⟩
        have hB := hB.trans (hb.mono hbs)
        have hbs := hB.size
        clear hb h1 q0
        go_wp2_with fail
        refine (h2 _).mono ?_
        rintro e y2 ⟨rfl, hb⟩
        have hB := hB.trans (hb.mono hbs)
        have hbs := hB.size
        clear hb h2
        go_wp2_with fail
        refine (h3 _).mono ?_
        rintro e y3 ⟨rfl, hb⟩
        have hB := hB.trans (hb.mono hbs)
        have hbs := hB.size
        clear hb h3
        go_wp2_with fail
        refine (h4 _).mono ?_
        rintro e y4 ⟨rfl, hb⟩
        have hB := hB.trans (hb.mono hbs)
        clear hb h4
        go_wp2_with fail
        go_roundw
        case rel => exact ⟨j + 1, by omega, by go_num, hB⟩
        case measure => simp [intOf]; omega
      · obtain rfl : j = 2 := by omega
        go_wp2_with fail
        go_ret
        exact ⟨rfl, B4⟩
theorem tells_str (a : Nat → Nat) (ha : Kec.Ok a) (s : ByteArray) (hs : s.size ≤ maxLen) (n : Int) (hn : -9223372036854775808 ≤ n ∧ n ≤ 9223372036854775807) (w : World) (hT : Table w) :
    Calls Tryd.prog 3 #[.agg (lanesV a), .string s, .int .i64 n] w fun e W' => e = .returned (.bool true) ∧ Below w.heap.size w W' := by
  have h := tells_true a ha s.data.toList (by simpa [maxLen] using hs) n hn w hT
  rw [str_of] at h
  exact h
end Go.Proofs.YtblfodhbimgonaaDoor
