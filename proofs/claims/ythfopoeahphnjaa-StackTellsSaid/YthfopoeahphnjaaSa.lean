/- pick, Of, Same, by their walks. -/
import Derived.Test.YthfopoeahphnjaaStA
namespace Go.Proofs.Ythfopoeahphnjaa
open Go.RowKit Go.Shelf
set_option linter.unusedVariables false
set_option linter.unusedSimpArgs false

theorem ret_bool {a b : Bool} (h : a = b) : Ending.returned (.bool a) = .returned (.bool b) := by rw [h]
/-- 'pick': which of n things a raw number speaks of. -/
def pickS (c n : Int) : Int := (if c < 0 then -(c + 1) else c) % n
theorem pickS_bd (c n : Int) (hn : 1 ≤ n) : 0 ≤ pickS c n ∧ pickS c n < n := by
  unfold pickS
  exact ⟨Int.emod_nonneg _ (by omega), Int.emod_lt_of_pos _ (by omega)⟩
set_option maxHeartbeats 400000 in
theorem pick_any (c n : Int) (w : World) (hn : 1 ≤ n) (hn2 : n ≤ 1000000) (hc : -9223372036854775808 ≤ c) (hc2 : c ≤ 9223372036854775807) :
    Calls Try.prog 12 #[.int .i64 c, .int .i64 n] w fun e w' => e = .returned (.int .i64 (pickS c n)) ∧ w = w' := by
  by_cases h : c < 0
  · go_enter Try.func12, Try.ntmps12
    go_wp2
    go_ret
    refine ⟨ret_int ?_, rfl⟩
    rw [pickS, if_pos h, ← Int.neg_tmod]
    exact Int.tmod_eq_emod_of_nonneg (by omega)
  · go_enter Try.func12, Try.ntmps12
    go_wp2
    go_ret
    refine ⟨ret_int ?_, rfl⟩
    rw [pickS, if_neg (by omega)]
theorem pick_nat (c : Int) (n : Nat) (hn : 1 ≤ n) (hn2 : n ≤ 1000000) (hc : -9223372036854775808 ≤ c) (hc2 : c ≤ 9223372036854775807) :
    ∃ k : Nat, k < n ∧ ∀ w, Calls Try.prog 12 #[.int .i64 c, .int .i64 n] w fun e W' => e = .returned (.int .i64 k) ∧ w = W' := by
  have hb := pickS_bd c n (by omega)
  refine ⟨(pickS c n).toNat, by omega, fun w => ?_⟩
  rw [show (((pickS c n).toNat : Nat) : Int) = pickS c n from by omega]
  exact pick_any c n w (by omega) (by omega) hc hc2

/-- 'Of': the word of a number. -/
def ofI (n : Int) : Wd := ((n % 18446744073709551616).toNat, if n < 0 then 18446744073709551615 else 0, if n < 0 then 18446744073709551615 else 0, if n < 0 then 18446744073709551615 else 0)
def negF (q k : Nat) : Nat → Int := fun i => if i = 0 then (q : Int) else if i < k then 18446744073709551615 else 0
theorem negF_one (q : Nat) : row_ .u64 4 (negF q 1) = #[.int .u64 (q : Nat), .int .u64 0, .int .u64 0, .int .u64 0] := rfl
theorem negF_four (q : Nat) : row_ .u64 4 (negF q 4) = #[.int .u64 (q : Nat), .int .u64 18446744073709551615, .int .u64 18446744073709551615, .int .u64 18446744073709551615] := rfl
theorem negF_put (q k : Nat) (hk : 1 ≤ k) (hk4 : k < 4) : (row_ .u64 4 (negF q k)).setIfInBounds k (.int .u64 18446744073709551615) = row_ .u64 4 (negF q (k + 1)) := by
  rw [row_put _ _ _ _ _ hk4]
  refine row_congr fun i hi => ?_
  unfold negF
  by_cases h : i = k
  · subst h; simp; omega
  · have : (i < k + 1) = (i < k) := by rw [eq_iff_iff]; omega
    simp [h, this]
set_option maxRecDepth 100000 in
set_option maxHeartbeats 1000000 in
theorem of_any (n : Int) (hn : -9223372036854775808 ≤ n) (hn2 : n ≤ 9223372036854775807) (w : World) : Calls Try.prog 19 #[.int .i64 n] w fun e W' => e = .returned (.agg (wdV (ofI n))) ∧ Below w.heap.size w W' := by
  obtain ⟨q, hq⟩ : ∃ q : Nat, (n % 18446744073709551616).toNat = q := ⟨_, rfl⟩
  have e3 : IntKind.u64.wrap n = (q : Int) := by rw [IntKind.wrap_u64]; omega
  by_cases hneg : n < 0
  · have ho : wdV (ofI n) = #[.int .u64 (q : Nat), .int .u64 18446744073709551615, .int .u64 18446744073709551615, .int .u64 18446744073709551615] := by
      simp [ofI, hq, hneg, wdV, encW]
    rw [ho]
    go_enter Try.func19, Try.ntmps19
    go_wp2_with fail
    refine wp_abs (fun W => Holds_ W w.heap.size 25 #[.int .u64 0, .int .u64 0, .int .u64 0, .int .u64 0] ∧ Holds_ W (w.heap.size + 1) 25 (row_ .u64 4 (negF q 1)) ∧ Below w.heap.size w W) ?f0 ?g0
    case f0 =>
      have h0 := Holds_.new w 25 #[.int .u64 0, .int .u64 0, .int .u64 0, .int .u64 0]
      have h1 := Holds_.new (w.alloc (.cells #[.int .u64 0, .int .u64 0, .int .u64 0, .int .u64 0] 25)) 25 (row_ .u64 4 (negF q 1))
      simp only [World.size_alloc] at h1
      exact ⟨h0.alloc _, h1, ((Below.refl _ _).alloc (Nat.le_refl _) _).alloc (by simp) _⟩
    rintro W ⟨hR, hA, hB⟩
    go_loopw [4] (fun t wr => ∃ k : Nat, 1 ≤ k ∧ k ≤ 4 ∧ t = .int .i64 k ∧ Holds_ wr w.heap.size 25 #[.int .u64 0, .int .u64 0, .int .u64 0, .int .u64 0] ∧ Holds_ wr (w.heap.size + 1) 25 (row_ .u64 4 (negF q k)) ∧ Below w.heap.size w wr) (fun t _ => 4 - (intOf t).toNat)
    case atStart => exact ⟨1, by omega, by omega, rfl, hR, hA, hB⟩
    case round =>
      clear hR hA hB
      obtain ⟨k, hk1, hk, rfl, hR, hA, hB⟩ := hrel
      by_cases hlt : k < 4
      · have q1 : wr.cell? ⟨w.heap.size + 1, k, none⟩ = some (.int .u64 (negF q k k)) := (hA.cell _).trans (row_get _ _ _ _ (by omega))
        have q2 : wr.frozen? ⟨w.heap.size + 1, k, none⟩ = false := hA.free _
        have hlt4 : (k : Int) < 4 := by omega
        go_wp2_with fail
        go_roundw
        case rel =>
          refine ⟨k + 1, by omega, by omega, by go_num, hR.far (p := ⟨w.heap.size + 1, k, none⟩) (by simp) _, ?_, hB.setCell (p := ⟨w.heap.size + 1, k, none⟩) (by simp) _⟩
          rw [← negF_put q k hk1 hlt]
          exact hA.put k _
        case measure => simp [intOf]; omega
      · obtain rfl : k = 4 := by omega
        go_wp2_with (first
          | (with_reducible show wpList _ _ _ (⟨some 16, _, _, _, _, _⟩ :: _) _ _; refine wpList_loadRow rfl 25 _ rfl (w.heap.size + 1) rfl 25 _ _ hA Try.underlying25 rfl (by rw [row_size]; exact info25) ?_)
          | (with_reducible show wpList _ _ _ (⟨none, _, _, _, _, _⟩ :: _) _ _; refine wpList_storeRow rfl 25 _ _ rfl w.heap.size _ rfl rfl 25 _ hR (by rw [row_size]; exact info25) (by simp [row_size]) (row_one _ _ _) ?_))
        have hR2 := hR.putRow (row_ .u64 4 (negF q 4))
        exact bodyPost_ret (results_cell_row rfl _ _ w.heap.size 25 _ (0, 0) _ rfl hR2 Try.underlying25 rfl (by rw [row_size]; exact info25)) rfl ⟨rfl, below_putRow hB (Nat.le_refl _) _⟩
  · have ho : wdV (ofI n) = #[.int .u64 (q : Nat), .int .u64 0, .int .u64 0, .int .u64 0] := by
      simp [ofI, hq, hneg, wdV, encW]
    rw [ho]
    go_enter Try.func19, Try.ntmps19
    go_wp2_with fail
    exact bodyPost_ret (results_cell_row rfl _ _ w.heap.size 25 _ (0, 0) _ rfl ((Holds_.new w 25 _).alloc _) Try.underlying25 rfl info25) rfl ⟨rfl, ((Below.refl _ _).alloc (Nat.le_refl _) _).alloc (by simp) _⟩

/-! words, compared -/
theorem info23 : (Try.prog.info? 23).map (·.size) = some 1 := by kernel_rfl
theorem wdV_row (x : Wd) : wdV x = row_ .u64 4 (fun i => if i = 0 then (x.1 : Int) else if i = 1 then (x.2.1 : Int) else if i = 2 then (x.2.2.1 : Int) else (x.2.2.2 : Int)) := rfl
theorem run_equalIn_word (W : World) (x y : Wd) : (Op.equalIn 10000 25 (.agg (wdV x)) (.agg (wdV y))).run Try.prog W = .ok (decide (x = y)) W := by
  have h := run_equalIn_row (P := Try.prog) W 25 23 4 .u64 .u64 (fun i => if i = 0 then (x.1 : Int) else if i = 1 then (x.2.1 : Int) else if i = 2 then (x.2.2.1 : Int) else (x.2.2.2 : Int)) (fun i => if i = 0 then (y.1 : Int) else if i = 1 then (y.2.1 : Int) else if i = 2 then (y.2.2.1 : Int) else (y.2.2.2 : Int)) Try.underlying25 Try.underlying23 info23
  rw [← wdV_row, ← wdV_row] at h
  rw [h]
  congr 1
  unfold sameI
  rw [decide_eq_decide]
  constructor
  · intro hh
    apply wdV_inj
    rw [wdV_row, wdV_row]
    exact row_congr hh
  · rintro rfl i _
    rfl

set_option maxRecDepth 100000 in
set_option maxHeartbeats 1000000 in
theorem same_any (v v' : Value) (L L' : List Wd) (w : World) (h : Ws w v L) (h' : Ws w v' L') : Calls Try.prog 11 #[v, v'] w fun e W' => e = .returned (.bool (decide (L = L'))) ∧ Below w.heap.size w W' := by
  obtain ⟨A, c, rfl, h1, h2, hn⟩ := h.form
  obtain ⟨A', c', rfl, h1', h2', hn'⟩ := h'.form
  have hl := h.len
  have hl' := h'.len
  by_cases hne : L.length = L'.length
  · obtain ⟨m, hm⟩ : ∃ m, L.length = m := ⟨_, rfl⟩
    have hm' : L'.length = m := by omega
    rw [hm] at h h1 hl
    rw [hm'] at h' h1'
    rw [hm, hm']
    have hB0 := Below.refl w.heap.size w
    go_enter Try.func11, Try.ntmps11
    go_wp2_with fail
    go_loopw [5] (fun t wr => ∃ k : Nat, k ≤ m ∧ t = .int .i64 k ∧ L.take k = L'.take k ∧ Below w.heap.size w wr) (fun t _ => m - (intOf t).toNat)
    case atStart => exact ⟨0, by omega, rfl, by simp, hB0⟩
    case round =>
      obtain ⟨k, hk, rfl, heq, hB⟩ := hrel
      by_cases hlt : k < m
      · have hx : L[k]? = some L[k] := List.getElem?_eq_getElem (by omega)
        have hy : L'[k]? = some L'[k] := List.getElem?_eq_getElem (by omega)
        have ht : L.take (k + 1) = L.take k ++ [L[k]] := List.take_succ_eq_append_getElem (by omega)
        have ht' : L'.take (k + 1) = L'.take k ++ [L'[k]] := List.take_succ_eq_append_getElem (by omega)
        obtain ⟨g, off, rfl⟩ : ∃ g off, A = some ⟨g, off, none⟩ := by
          rcases h with ⟨e, _⟩ | ⟨g, off, _, e, _⟩
          · cases e; omega
          · cases e; exact ⟨g, off, rfl⟩
        obtain ⟨g', off', rfl⟩ : ∃ g off, A' = some ⟨g, off, none⟩ := by
          rcases h' with ⟨e, _⟩ | ⟨g, off, _, e, _⟩
          · cases e; omega
          · cases e; exact ⟨g, off, rfl⟩
        have hW := fun W (hb : Below w.heap.size w W) => (h.later hb).at_ k _ hx
        have hW' := fun W (hb : Below w.heap.size w W) => (h'.later hb).at_ k _ hy
        have hnext : L[k] = L'[k] → L.take (k + 1) = L'.take (k + 1) := fun e => by rw [ht, ht', heq, e]
        have hstop : L[k] ≠ L'[k] → L ≠ L' := fun e e' => e (by subst e'; rfl)
        have hEq := fun W => run_equalIn_word W L[k] L'[k]
        generalize L[k] = x at *
        generalize L'[k] = y at *
        clear ht ht' hx hy
        have hlt' : (k : Int) < (m : Int) := by omega
        go_wp2_with fail
        refine wp_region_quiet_class (fun W => Below w.heap.size w W) (by kernel_rfl) (by kernel_rfl) hB.drew ?_
        refine BigFrame.wpQuiet_want rfl (fun K hK => ?_)
        refine BigFrame.quiet_move _ rfl ?_
        go_simp; refine hK _ ?_; clear hK K
        refine BigFrame.wpQuiet_want rfl (fun K hK => ?_)
        refine BigFrame.quiet_move _ rfl ?_
        go_simp; refine hK _ ?_; clear hK K
        refine BigFrame.wpQuiet_want rfl (fun K hK => ?_)
        refine quiet_run (.pointer (some ⟨g, off + 4 * k, none⟩)) (fun W hW => by go_simp) ?_
        go_simp; refine hK _ ?_; clear hK K
        refine BigFrame.wpQuiet_want rfl (fun K hK => ?_)
        refine quiet_load_word _ rfl g (off + 4 * k) rfl x hW ?_
        go_simp; refine hK _ ?_; clear hK K
        refine BigFrame.wpQuiet_want rfl (fun K hK => ?_)
        refine BigFrame.quiet_move _ rfl ?_
        go_simp; refine hK _ ?_; clear hK K
        refine BigFrame.wpQuiet_want rfl (fun K hK => ?_)
        refine BigFrame.quiet_move _ rfl ?_
        go_simp; refine hK _ ?_; clear hK K
        refine BigFrame.wpQuiet_want rfl (fun K hK => ?_)
        refine quiet_run (.pointer (some ⟨g', off' + 4 * k, none⟩)) (fun W hW => by go_simp) ?_
        go_simp; refine hK _ ?_; clear hK K
        refine BigFrame.wpQuiet_want rfl (fun K hK => ?_)
        refine quiet_load_word _ rfl g' (off' + 4 * k) rfl y hW' ?_
        go_simp; refine hK _ ?_; clear hK K
        refine BigFrame.wpQuiet_want rfl (fun K hK => ?_)
        refine quiet_run (.bool (!decide (x = y))) (fun W hW => by go_simp) ?_
        go_simp; refine hK _ ?_; clear hK K
        refine wpQuiet_nil ?_
        intro W2 hB2
        clear hW hW' hEq
        by_cases hxy : x = y
        · rw [decide_eq_true hxy]
          go_wp2_with fail
          go_roundw
          case rel => exact ⟨k + 1, by omega, by go_num, hnext hxy, hB2⟩
          case measure => simp [intOf]; omega
        · rw [decide_eq_false hxy]
          go_wp2_with fail
          go_ret
          exact ⟨ret_bool (by rw [decide_eq_false (hstop hxy)]), hB2⟩
      · obtain rfl : k = m := by omega
        go_wp2_with fail
        go_ret
        rw [List.take_of_length_le (by omega), List.take_of_length_le (by omega)] at heq
        exact ⟨ret_bool (by rw [decide_eq_true heq]), hB⟩
  · have hne' : ((L.length : Int) != (L'.length : Int)) = true := by rw [bne_iff_ne]; omega
    go_enter Try.func11, Try.ntmps11
    go_wp2_with fail
    go_ret
    exact ⟨ret_bool (by rw [decide_eq_false (fun e => hne (by rw [e]))]), Below.refl _ _⟩
end Go.Proofs.Ythfopoeahphnjaa
