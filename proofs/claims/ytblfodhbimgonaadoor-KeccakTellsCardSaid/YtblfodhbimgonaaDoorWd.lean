/- chi, by its walk. -/
import Derived.Test.YtblfodhbimgonaaDoorWc
namespace Go.Proofs.YtblfodhbimgonaaDoor
open Go.RowKit Go.Shelf
set_option linter.unusedVariables false
set_option linter.unusedSimpArgs false
attribute [local go_sem] Oper.semAt_some

theorem laneG_any (i x y : Nat) (hi : Kec.lane x y = i) (hx : x ≤ 1000) (hy : y ≤ 1000) (w : World) :
    Calls Tryd.prog 31 #[.int .i64 (x : Int), .int .i64 (y : Int)] w fun e w' => e = .returned (.int .i64 (i : Int)) ∧ w = w' := by
  refine (lane_any _ _ _ (by omega) (by omega) (by omega) (by omega)).mono ?_
  rintro e w' ⟨rfl, rfl⟩
  exact ⟨ret_int (by unfold Kec.lane at hi; omega), rfl⟩
theorem u64_andn (x y : Nat) (hx : x < 18446744073709551616) (hy : y < 18446744073709551616) : bits .andNot .u64 (x : Int) (y : Int) = ((Kec.andn x y : Nat) : Int) := u64_andNot_nat x y hx hy
def chL (a : Nat → Nat) (pre : List (Fin 25)) : Nat → Nat := pre.foldl (fun f k => Kec.upd f k.1 (Kec.chiAt a k.1)) (fun _ => 0)
theorem chL_snoc (a : Nat → Nat) (pre : List (Fin 25)) (k : Fin 25) : chL a (pre ++ [k]) = Kec.upd (chL a pre) k.1 (Kec.chiAt a k.1) := by simp [chL]
theorem chL_all (a : Nat → Nat) : chL a allP = Kec.chi a := rfl

set_option maxRecDepth 100000 in
set_option maxHeartbeats 2000000 in
theorem chi_any (a : Nat → Nat) (ha : Kec.Ok a) (w : World) :
    Calls Tryd.prog 18 #[.agg (lanesV a)] w fun e W' => e = .returned (.agg (lanesV (Kec.chi a))) ∧ Below w.heap.size w W' := by
  refine (callsIn_wide (n := 3)).1 ?_
  refine callsIn_of_wp_marks Tryd.func18 rfl trivial ?_ rfl
  simp only [Tryd.ntmps18, List.size_toArray, List.length_cons, List.length_nil, Nat.reduceAdd, Nat.reduceSub, Array.replicate_succ, Array.replicate_zero, List.push_toArray, List.append_toArray, List.nil_append, List.cons_append]
  gi_wp2_with (refine ⟨trivial, ?_⟩; gi_at_call 30; refine (callsIn_wide.2 (places_any _)).mono ?_; rintro e w' ⟨rfl, rfl⟩)
  refine wpIn_abs (fun W => Holds_ W w.heap.size 24 (lanesV a) ∧ Holds_ W (w.heap.size + 1) 24 (lanesV (fun _ => 0)) ∧ Below w.heap.size w W) ?f0 ?g0
  case f0 =>
    have h0 := Holds_.new w 24 (lanesV a)
    have h1 := Holds_.new (w.alloc (.cells (lanesV a) 24)) 24 (lanesV (fun _ => 0))
    simp only [World.size_alloc] at h1
    refine ⟨h0.alloc _, h1, ?_⟩
    exact ((Below.refl _ _).alloc (Nat.le_refl _) _).alloc (by simp) _
  rintro W1 ⟨hA, hR, hB⟩
  have hl1 := hR.lt
  refine' wpIn_rangeFunc_ownG rfl (by omega) (gf := 35) (lb := #[]) rfl trivial (enters_of Tryd.func35 (by kernel_rfl) rfl)
    (places_stops Fence.wide 2 trivial rfl (by omega) W1) walksK_t walksK_b (Below.refl _ _) (fun _ => rfl)
    (fun pre W => (Holds_ W w.heap.size 24 (lanesV a) ∧ Holds_ W (w.heap.size + 1) 24 (lanesV (chL a pre))) ∧ Below w.heap.size w W)
    (fun _ _ _ => False)
    (OwnFrom.and (OwnFrom.and (Own.from (Holds_.own _ _ _) _) (Own.from (Holds_.own _ _ _) _)) (ownFrom_below (Nat.le_refl _) hB.size))
    (fun _ _ _ _ _ hs _ _ => hs)
    ⟨⟨hA, hR⟩, hB⟩ _ ?assign ?body ?done ?stop
  case assign =>
    intro l x W K hK
    gi_wp2
    exact hK
  case body =>
    rintro l pre ⟨k, hk⟩ W ⟨⟨hA, hR⟩, hB⟩ _
    dsimp only
    obtain ⟨x, hx⟩ : ∃ x, k % 5 = x := ⟨_, rfl⟩
    obtain ⟨y, hy⟩ : ∃ y, k / 5 = y := ⟨_, rfl⟩
    rw [show (k : Int) % 5 = (x : Int) from by omega, show (k : Int) / 5 = (y : Int) from by omega]
    obtain ⟨p, hp⟩ : ∃ p, x + 2 = p := ⟨_, rfl⟩
    obtain ⟨q, hq⟩ : ∃ q, x + 1 = q := ⟨_, rfl⟩
    obtain ⟨i2, hi2⟩ : ∃ i2, Kec.lane p y = i2 := ⟨_, rfl⟩
    obtain ⟨i1, hi1⟩ : ∃ i1, Kec.lane q y = i1 := ⟨_, rfl⟩
    have hk5 : (k : Int) < 25 := by omega
    have h25 : (i2 : Int) < 25 := by have := Kec.lane_lt p y; omega
    have h15 : (i1 : Int) < 25 := by have := Kec.lane_lt q y; omega
    have Hl := laneXY_any k x y hx hy hk
    have H2 := laneG_any i2 p y hi2 (by omega) (by omega)
    have H1 := laneG_any i1 q y hi1 (by omega) (by omega)
    have hat : Kec.chiAt a k = a k ^^^ Kec.andn (a i2) (a i1) := by unfold Kec.chiAt; rw [hx, hy, hp, hq, hi2, hi1]
    have Hat := Lib.hid hat
    have w1 : IntKind.i64.wrap ((x : Int) + 2) = (p : Int) := (IntWalk.i64_in _ (by omega)).trans (by omega)
    have w2 : IntKind.i64.wrap ((x : Int) + 1) = (q : Int) := (IntWalk.i64_in _ (by omega)).trans (by omega)
    clear hx hy hp hq hi2 hi1 hat
    have hc1 : W.cell? ⟨w.heap.size, k, none⟩ = some (.int .u64 (a k : Nat)) := (hA.cell _).trans (row_get _ _ _ _ hk)
    have hc2 : W.cell? ⟨w.heap.size, i2, none⟩ = some (.int .u64 (a i2 : Nat)) := (hA.cell _).trans (row_get _ _ _ _ (by omega))
    have hc3 : W.cell? ⟨w.heap.size, i1, none⟩ = some (.int .u64 (a i1 : Nat)) := (hA.cell _).trans (row_get _ _ _ _ (by omega))
    have hc4 : W.cell? ⟨w.heap.size + 1, k, none⟩ = some (.int .u64 (chL a pre k : Nat)) := (hR.cell _).trans (row_get _ _ _ _ hk)
    have hf1 : W.frozen? ⟨w.heap.size + 1, k, none⟩ = false := hR.free _
    gi_wp2
    refine wpIn_region_still_tail ?hq 22 (by kernel_rfl) (by kernel_rfl) ?_
    case hq => exact fun ⟨_, _, h⟩ => h
    simp only [List.take_succ_cons, List.take_zero, List.drop_succ_cons, List.drop_zero]
    repeat still_step
    still_call (same_of (Hl _))
    repeat still_step
    still_call (same_of (Hl _))
    repeat still_step
    still_call (same_of (H2 _))
    repeat still_step
    still_call (same_of (H1 _))
    repeat still_step
    refine wpStill_nil ?_
    clear w1 w2
    go_wp2
    rw [u64_andn _ _ (ha i2 (by omega)) (ha i1 (by omega))]
    rw [u64_xor_nat _ _ (ha k hk) (Kec.andn_lt _ _ (ha i2 (by omega)))]
    refine ⟨((KeepsOthers.setCell _ _ _).trans (KeepsOthers.drew _)).from _, ((KeepsOthers.setCell _ _ _).trans (KeepsOthers.drew _)).walks, ⟨?_, ?_⟩, ?_⟩
    · exact (hA.far (p := ⟨w.heap.size + 1, k, none⟩) (by simp) _).drew
    · rw [chL_snoc, Hat.out]
      exact (hR.putN k _ hk).drew
    · exact (hB.setCell (p := ⟨w.heap.size + 1, k, none⟩) (by simp) _).drew
  case done =>
    rintro D1 xs W2 hD1 rfl ⟨⟨hA, hR⟩, hB⟩ hK1
    rw [chL_all] at hR
    gi_wp2_with (first
      | (with_reducible show wpListIn _ _ _ _ _ (⟨some 31, _, _, _, _, _⟩ :: _) _ _; refine wpListIn_loadRow rfl 24 _ rfl (w.heap.size + 1) rfl 24 _ _ hR Tryd.underlying24 rfl (by rw [row_size]; exact info24) ?_)
      | (with_reducible show wpListIn _ _ _ _ _ (⟨none, _, _, _, _, _⟩ :: _) _ _; refine wpListIn_storeRow rfl 24 _ _ rfl (w.heap.size + 1) _ rfl rfl 24 _ hR (by rw [row_size]; exact info24) (by simp [row_size]) (row_one _ _ _) ?_))
    have hR2 := hR.putRow (lanesV (Kec.chi a))
    have hK1' : (W2.setRow (w.heap.size + 1) (lanesV (Kec.chi a))).heap[D1]? = some (.deferred (some [])) := (setRow_other _ _ _ _ (by omega)).trans hK1
    have hsz := hB.size
    refine ⟨by simp, .inl ⟨D1, _, rfl, run_takeDeferred hK1', _, results_cell_row rfl _ _ (w.heap.size + 1) 24 _ (0, 0) _ rfl (hR2.obj (by omega) _) Tryd.underlying24 rfl (by rw [row_size]; exact info24), rfl, ?_⟩⟩
    exact (below_putRow hB (by omega) _).grown (grownBy_putObj' _ D1 _) (by simp; omega) (fun k e => by cases e; omega)
  case stop =>
    rintro D c pre W _ _ h _
    exact h.elim
end Go.Proofs.YtblfodhbimgonaaDoor
