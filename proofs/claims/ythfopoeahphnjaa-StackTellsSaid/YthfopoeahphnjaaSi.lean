/- awake, by its walk. -/
import Derived.Test.YthfopoeahphnjaaSh
namespace Go.Proofs.Ythfopoeahphnjaa
open Go.RowKit Go.Shelf
set_option linter.unusedVariables false
set_option linter.unusedSimpArgs false

theorem calls_abs {P : Program} {f : FuncId} {args : Array Value} {w : World} {Q : Ending → World → Prop} (R : World → Prop) (h0 : R w) (h : ∀ W, R W → Calls P f args W Q) : Calls P f args w Q := h w h0
abbrev wA : Wd := (1, 0, 0, 0)
abbrev wB : Wd := (2, 0, 0, 0)
abbrev wZ : Wd := (0, 0, 0, 0)
theorem ws_cells {W : World} {g n : Nat} {L : List Wd} {cs : Array Value} (h : Holds_ W g 25 cs) (hcs : cs.toList = flat L) (hn : n = L.length) (hm : n ≤ 100000) : Ws W (.slice (some ⟨g, 0, none⟩) n n) L := by
  subst hn
  refine .inr ⟨g, 0, L.length, rfl, Nat.le_refl _, by unfold maxLen; omega, h.lt, fun j u hu => ?_⟩
  rw [Nat.zero_add, h.cell, ← hu, ← hcs]
  simp
theorem made_flat (n : Nat) : (madeCells (wdV wZ) (n * 4)).toList = flat (List.replicate n wZ) := by
  have hl : (flat (List.replicate n wZ)).length = 4 * n := by rw [flat_length, List.length_replicate]
  have hz : ∀ r, r < 4 → (wdV wZ)[r]! = .int .u64 0 := by
    intro r hr
    match r, hr with
    | 0, _ => rfl
    | 1, _ => rfl
    | 2, _ => rfl
    | 3, _ => rfl
  have hz' : ∀ r, r < 4 → (encW wZ)[r]? = some (.int .u64 0) := by
    intro r hr
    match r, hr with
    | 0, _ => rfl
    | 1, _ => rfl
    | 2, _ => rfl
    | 3, _ => rfl
  apply List.ext_getElem?
  intro j
  by_cases hj : j < 4 * n
  · have h1 : (flat (List.replicate n wZ))[j]? = some (.int .u64 0) := by
      have hq : (List.replicate n wZ)[j / 4]? = some wZ := List.getElem?_replicate_of_lt (by omega)
      have := flat_get (List.replicate n wZ) (j / 4) wZ hq (j % 4) (by omega)
      rw [show 4 * (j / 4) + j % 4 = j from by omega] at this
      rw [this]
      exact hz' (j % 4) (by omega)
    rw [h1, Array.getElem?_toList]
    simp only [madeCells]
    rw [Array.getElem?_map]
    have h3 : (wdV wZ).size = 4 := rfl
    have hjn : j < n * 4 := by omega
    simp [h3, hjn, hz (j % 4) (by omega)]
  · rw [List.getElem?_eq_none (by rw [Array.length_toList, size_madeCells]; omega), List.getElem?_eq_none (by omega)]
theorem run_made (n : Nat) (hn : n ≤ 2000) (W : World) : (Instr.makeSlice 27 (.int .i64 n) (.int .i64 n)).run Try.prog W = .ok (.slice (some ⟨W.heap.size, 0, none⟩) n n) (W.alloc (.cells (madeCells (wdV wZ) (n * 4)) 25)) := by
  obtain ⟨i0, hi, hz0, hz1, hz2⟩ := info_parts infoz25
  have h := run_make (P := Try.prog) W 27 25 i0 _ Try.underlying27 hi hz0 .i64 .i64 n n (by omega) (by omega) (by rw [hz2]; omega) (by omega)
  rw [hz1] at h
  simp only [Int.toNat_natCast] at h
  exact h
def ptup : Value → World → Prop := fun v _ => ∃ v', v = .tuple #[v', .int .i64 41]
theorem st_ptup : Stable_ ptup := fun _ _ _ _ h => h
theorem of_1 (w : World) : Calls Try.prog 19 #[.int .i64 1] w fun e W' => e = .returned (.agg #[.int .u64 1, .int .u64 0, .int .u64 0, .int .u64 0]) ∧ Below w.heap.size w W' := of_any 1 (by decide) (by decide) w
theorem of_2 (w : World) : Calls Try.prog 19 #[.int .i64 2] w fun e W' => e = .returned (.agg #[.int .u64 2, .int .u64 0, .int .u64 0, .int .u64 0]) ∧ Below w.heap.size w W' := of_any 2 (by decide) (by decide) w

set_option maxRecDepth 100000 in
set_option maxHeartbeats 8000000 in
theorem awake_any (w : World) : Calls Try.prog 7 #[] w fun e W' => e = .returned (.bool true) ∧ Below w.heap.size w W' := by
  have hB0 := Below.refl w.heap.size w
  go_enter Try.func7, Try.ntmps7
  go_wp2_with fail
  refine (of_1 _).mono ?_
  rintro e w1 ⟨rfl, hb⟩
  have B1 := hB0.trans hb
  clear hb
  go_wp2_with fail
  refine (of_2 _).mono ?_
  rintro e w2 ⟨rfl, hb⟩
  have B2 := B1.trans (hb.mono B1.size)
  clear hb B1
  go_wp2_with fail
  refine calls_abs (fun W => Ws W (.slice (some ⟨w2.heap.size, 0, none⟩) 2 2) [wA, wB] ∧ Below w.heap.size w W) ?f0 ?g0
  case f0 => exact ⟨ws_cells (Holds_.new _ _ _) rfl rfl (by decide), B2.alloc B2.size _⟩
  rintro W ⟨hL, B3⟩
  clear B2
  refine (push_any _ _ [] [wA, wB] (by decide) (by decide) W (Ws.nil_ _) hL).mono ?_
  rintro e w3 ⟨vs, rfl, hs, hb⟩
  have B4 := B3.trans (hb.mono B3.size)
  clear hb hL B3
  rw [show pushE [] [wA, wB] = 0 from by decide]
  rw [show pushL [] [wA, wB] = [wA, wB] from by decide] at hs
  go_wp2_with fail
  refine (dup_any _ _ (by decide) 2 (by decide) (by decide) _ hs).mono ?_
  rintro e w4 ⟨vt, rfl, ht, hb⟩
  have B5 := B4.trans (hb.mono B4.size)
  clear hb hs B4
  rw [show dupE [wA, wB] 2 = 0 from by decide]
  rw [show dupL [wA, wB] 2 = [wA, wB, wA] from by decide] at ht
  go_wp2_with fail
  refine (swap_any _ _ (by decide) 1 (by decide) (by decide) _ ht).mono ?_
  rintro e w5 ⟨vu, rfl, hu, hb⟩
  have B6 := B5.trans (hb.mono B5.size)
  have ht := ht.later hb
  clear hb B5
  rw [show swapE [wA, wB, wA] 1 = 0 from by decide]
  rw [show swapL [wA, wB, wA] 1 = [wA, wA, wB] from by decide] at hu
  go_wp2_with fail
  refine (pop_any _ _ (by decide) 2 (by decide) (by decide) _ hu).mono ?_
  rintro e w6 ⟨vv, vl, rfl, hv, hl, hb⟩
  have B7 := B6.trans (hb.mono B6.size)
  have ht := ht.later hb
  have hu := hu.later hb
  clear hb B6
  rw [show popE [wA, wA, wB] 2 = 0 from by decide]
  rw [show popA [wA, wA, wB] 2 = [wA] from by decide] at hv
  rw [show popB [wA, wA, wB] 2 = [wB, wA] from by decide] at hl
  go_wp2_with fail
  refine (pop_any _ [] (by decide) 1 (by decide) (by decide) _ (Ws.nil_ _)).mono ?_
  rintro e w7 ⟨n1, n2, rfl, -, -, hb⟩
  have B8 := B7.trans (hb.mono B7.size)
  have ht := ht.later hb
  have hu := hu.later hb
  have hv := hv.later hb
  have hl := hl.later hb
  clear hb B7
  rw [show popE [] 1 = 40 from by decide]
  go_wp2_with fail
  refine wp_region_inv (fun W => Below w.heap.size w W ∧ Keep w7 W) Keep (fsP [pws (List.replicate 1024 wZ), pv (.func (.func 19) #[] #[]), pv (.agg #[.int .u64 1, .int .u64 0, .int .u64 0, .int .u64 0]), pws [wA], ptup, ptup, fun _ _ => True, pv (.int .i64 41), fun _ _ => True, pv (.int .i64 41)]) (by kernel_rfl) (by kernel_rfl) ⟨B8.drew, (Below.refl _ _).drew⟩ (fsP_st _ ?st) ?hop ?hfin
  case st => repeat (first | exact st_nil | refine st_cons (st_pv _) ?_ | refine st_cons (st_pws _) ?_ | refine st_cons st_ptup ?_ | refine st_cons (fun _ _ _ _ _ => trivial) ?_)
  case hop =>
    rintro a W ⟨hCW, hK7⟩ hold
    have hst : ∀ W', Keep W W' → Below w.heap.size w W' ∧ Keep w7 W' := fun W' hk => ⟨hCW.trans (hk.mono hCW.size), hK7.trans (hk.mono hK7.size)⟩
    have e1 : a.eval (.tmp 1) = .func (.func 19) #[] #[] := (hold 1 (by decide)).trans rfl
    refine ⟨?_, ?_, ?_, ?_, ?_, ?_, ?_, ?_, ?_, ?_, trivial⟩
    · intro hp
      have hk : Keep W (W.alloc (.cells (madeCells (wdV wZ) (1024 * 4)) 25)) := (Below.refl _ _).alloc (Nat.le_refl _) _
      refine does_runW _ _ ?_ ⟨hst _ hk, hk, ws_cells (Holds_.new W 25 _) (made_flat 1024) (by rw [List.length_replicate]) (by decide)⟩
      have h : (Instr.makeSlice 27 (a.eval (.const (.int .i64 1024))) (a.eval (.const (.int .i64 1024)))).run Try.prog W = _ := run_made 1024 (by decide) W
      simp only [execOp]
      rw [Sem.run_bind, h]
      rfl
    · intro hp
      exact does_move _ _ rfl e1 ⟨hst _ (Below.refl _ _), Below.refl _ _, rfl⟩
    · intro hp
      have e48 := preds_get hp 1 _ rfl rfl
      change a.eval (.tmp 48) = .func (.func 19) #[] #[] at e48
      refine does_enter 19 #[.int .i64 1] ?_ ((of_1 W).mono ?_)
      · simp only [execOp, resolve, invoke, List.map_toArray, List.map_cons, List.map_nil, e48]
        simp [go_sem, Act.eval, resolve, invoke]
      · rintro e W' ⟨rfl, hb⟩
        exact ⟨_, rfl, hst _ hb, hb, rfl⟩
    · intro hp
      have e49 := preds_get hp 2 _ rfl rfl
      change a.eval (.tmp 49) = .agg #[.int .u64 1, .int .u64 0, .int .u64 0, .int .u64 0] at e49
      have hk : Keep W (W.alloc (.cells #[.int .u64 1, .int .u64 0, .int .u64 0, .int .u64 0] 25)) := (Below.refl _ _).alloc (Nat.le_refl _) _
      refine does_runW (.slice (some ⟨W.heap.size, 0, none⟩) 1 1) _ ?_ ⟨hst _ hk, hk, ws_cells (Holds_.new W 25 _) rfl rfl (by decide)⟩
      simp only [execOp, List.map_toArray, List.map_cons, List.map_nil, e49]
      simp [go_sem]
    · intro hp
      have e47 := preds_get hp 0 _ rfl rfl
      change Ws W (a.eval (.tmp 47)) _ at e47
      have e50 := preds_get hp 3 _ rfl rfl
      change Ws W (a.eval (.tmp 50)) _ at e50
      refine does_enter 9 #[a.eval (.tmp 47), a.eval (.tmp 50)] ?_ ((push_any _ _ _ _ (by rw [List.length_replicate]; decide) (by decide) W e47 e50).mono ?_)
      · generalize h47 : a.eval (.tmp 47) = v47
        generalize h50 : a.eval (.tmp 50) = v50
        simp only [execOp, resolve, invoke, List.map_toArray, List.map_cons, List.map_nil, h47, h50]
        simp [go_sem, Act.eval, resolve, invoke]
      · rintro e W' ⟨v', rfl, hW, hb⟩
        exact ⟨_, rfl, hst _ hb, hb, v', by
          have : pushE (List.replicate 1024 wZ) [wA] = 41 := by unfold pushE; rw [List.length_replicate]; decide
          show Value.tuple _ = _
          rw [this]⟩
    · intro hp
      have e51 := preds_get hp 4 _ rfl rfl
      exact does_move _ _ rfl rfl ⟨hst _ (Below.refl _ _), Below.refl _ _, e51⟩
    · intro hp
      obtain ⟨v', e46⟩ := (preds_get hp 5 _ rfl rfl : ptup _ W)
      change a.eval (.tmp 46) = _ at e46
      refine does_run v' ?_ ⟨hst _ (Below.refl _ _), Below.refl _ _, trivial⟩
      simp only [execOp, e46]
      simp [go_sem]
    · intro hp
      obtain ⟨v', e46⟩ := (preds_get hp 5 _ rfl rfl : ptup _ W)
      change a.eval (.tmp 46) = _ at e46
      refine does_run (.int .i64 41) ?_ ⟨hst _ (Below.refl _ _), Below.refl _ _, rfl⟩
      simp only [execOp, e46]
      simp [go_sem]
    · intro hp
      exact does_assign _ _ rfl rfl ⟨hst _ (Below.refl _ _), Below.refl _ _, trivial⟩
    · intro hp
      have e53 := preds_get hp 7 _ rfl rfl
      exact does_assign _ _ rfl rfl ⟨hst _ (Below.refl _ _), Below.refl _ _, e53⟩
  case hfin =>
    rintro z W ⟨B9, hK7⟩ hall
    obtain ⟨-, -, -, -, -, -, -, -, -, z15, -⟩ := hall
    change z 15 = _ at z15
    have ht := ht.later hK7
    have hu := hu.later hK7
    have hv := hv.later hK7
    have hl := hl.later hK7
    clear hK7 B8
    simp only [dsts, List.length_cons, List.length_nil, Nat.reduceAdd, List.take_succ_cons, List.take_zero, List.filterMap_cons, List.filterMap_nil, List.foldl_cons, List.foldl_nil, List.setIfInBounds_toArray, List.set_cons_succ, List.set_cons_zero]
    simp only [z15]
    go_wp2_with fail
    refine (of_1 _).mono ?_
    rintro e x10 ⟨rfl, hb⟩
    have B10 := B9.trans (hb.mono B9.size)
    have ht := ht.later hb
    have hu := hu.later hb
    have hv := hv.later hb
    have hl := hl.later hb
    clear hb B9
    go_wp2_with fail
    refine (of_2 _).mono ?_
    rintro e x11 ⟨rfl, hb⟩
    have B11 := B10.trans (hb.mono B10.size)
    have ht := ht.later hb
    have hu := hu.later hb
    have hv := hv.later hb
    have hl := hl.later hb
    clear hb B10
    go_wp2_with fail
    refine (of_1 _).mono ?_
    rintro e x12 ⟨rfl, hb⟩
    have B12 := B11.trans (hb.mono B11.size)
    have ht := ht.later hb
    have hu := hu.later hb
    have hv := hv.later hb
    have hl := hl.later hb
    clear hb B11
    go_wp2_with fail
    refine calls_abs (fun W => Ws W (.slice (some ⟨x12.heap.size, 0, none⟩) 3 3) [wA, wB, wA] ∧ Ws W vt [wA, wB, wA] ∧ Ws W vu [wA, wA, wB] ∧ Ws W vv [wA] ∧ Ws W vl [wB, wA] ∧ Below w.heap.size w W) ?f1 ?g1
    case f1 => exact ⟨ws_cells (Holds_.new _ _ _) rfl rfl (by decide), ht.alloc _, hu.alloc _, hv.alloc _, hl.alloc _, B12.alloc B12.size _⟩
    clear ht hu hv hl B12
    rintro W ⟨hN, ht, hu, hv, hl, B12⟩
    refine (same_any _ _ _ _ W ht hN).mono ?_
    rintro e x13 ⟨rfl, hb⟩
    have B13 := B12.trans (hb.mono B12.size)
    have ht := ht.later hb
    have hu := hu.later hb
    have hv := hv.later hb
    have hl := hl.later hb
    clear hb B12
    rw [decide_eq_true (show [wA, wB, wA] = [wA, wB, wA] from rfl)]
    clear hN
    go_wp2_with fail
    refine (of_1 _).mono ?_
    rintro e x14 ⟨rfl, hb⟩
    have B14 := B13.trans (hb.mono B13.size)
    have hu := hu.later hb
    have hv := hv.later hb
    have hl := hl.later hb
    clear hb B13
    go_wp2_with fail
    refine (of_1 _).mono ?_
    rintro e x15 ⟨rfl, hb⟩
    have B15 := B14.trans (hb.mono B14.size)
    have hu := hu.later hb
    have hv := hv.later hb
    have hl := hl.later hb
    clear hb B14
    go_wp2_with fail
    refine (of_2 _).mono ?_
    rintro e x16 ⟨rfl, hb⟩
    have B16 := B15.trans (hb.mono B15.size)
    have hu := hu.later hb
    have hv := hv.later hb
    have hl := hl.later hb
    clear hb B15
    go_wp2_with fail
    refine calls_abs (fun W => Ws W (.slice (some ⟨x16.heap.size, 0, none⟩) 3 3) [wA, wA, wB] ∧ Ws W vu [wA, wA, wB] ∧ Ws W vv [wA] ∧ Ws W vl [wB, wA] ∧ Below w.heap.size w W) ?f2 ?g2
    case f2 => exact ⟨ws_cells (Holds_.new _ _ _) rfl rfl (by decide), hu.alloc _, hv.alloc _, hl.alloc _, B16.alloc B16.size _⟩
    clear hu hv hl B16
    rintro W ⟨hN, hu, hv, hl, B16⟩
    refine (same_any _ _ _ _ W hu hN).mono ?_
    rintro e x17 ⟨rfl, hb⟩
    have B17 := B16.trans (hb.mono B16.size)
    have hu := hu.later hb
    have hv := hv.later hb
    have hl := hl.later hb
    clear hb B16
    rw [decide_eq_true (show [wA, wA, wB] = [wA, wA, wB] from rfl)]
    clear hN
    go_wp2_with fail
    refine (of_1 _).mono ?_
    rintro e x18 ⟨rfl, hb⟩
    have B18 := B17.trans (hb.mono B17.size)
    have hv := hv.later hb
    have hl := hl.later hb
    clear hb B17
    go_wp2_with fail
    refine calls_abs (fun W => Ws W (.slice (some ⟨x18.heap.size, 0, none⟩) 1 1) [wA] ∧ Ws W vv [wA] ∧ Ws W vl [wB, wA] ∧ Below w.heap.size w W) ?f3 ?g3
    case f3 => exact ⟨ws_cells (Holds_.new _ _ _) rfl rfl (by decide), hv.alloc _, hl.alloc _, B18.alloc B18.size _⟩
    clear hv hl B18
    rintro W ⟨hN, hv, hl, B18⟩
    refine (same_any _ _ _ _ W hv hN).mono ?_
    rintro e x19 ⟨rfl, hb⟩
    have B19 := B18.trans (hb.mono B18.size)
    have hv := hv.later hb
    have hl := hl.later hb
    clear hb B18
    rw [decide_eq_true (show [wA] = [wA] from rfl)]
    clear hN
    go_wp2_with fail
    refine (of_2 _).mono ?_
    rintro e x20 ⟨rfl, hb⟩
    have B20 := B19.trans (hb.mono B19.size)
    have hl := hl.later hb
    clear hb B19
    go_wp2_with fail
    refine (of_1 _).mono ?_
    rintro e x21 ⟨rfl, hb⟩
    have B21 := B20.trans (hb.mono B20.size)
    have hl := hl.later hb
    clear hb B20
    go_wp2_with fail
    refine calls_abs (fun W => Ws W (.slice (some ⟨x21.heap.size, 0, none⟩) 2 2) [wB, wA] ∧ Ws W vl [wB, wA] ∧ Below w.heap.size w W) ?f4 ?g4
    case f4 => exact ⟨ws_cells (Holds_.new _ _ _) rfl rfl (by decide), hl.alloc _, B21.alloc B21.size _⟩
    clear hl B21
    rintro W ⟨hN, hl, B21⟩
    refine (same_any _ _ _ _ W hl hN).mono ?_
    rintro e x22 ⟨rfl, hb⟩
    have B22 := B21.trans (hb.mono B21.size)
    have hl := hl.later hb
    clear hb B21
    rw [decide_eq_true (show [wB, wA] = [wB, wA] from rfl)]
    clear hN
    go_wp2_with fail
    go_ret
    exact ⟨rfl, B22⟩
end Go.Proofs.Ythfopoeahphnjaa
