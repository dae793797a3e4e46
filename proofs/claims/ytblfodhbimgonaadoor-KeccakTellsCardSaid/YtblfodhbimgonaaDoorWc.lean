/- theta, turn, chi and Permute, each by its walk. -/
import Derived.Test.YtblfodhbimgonaaDoorWb
namespace Go.Proofs.YtblfodhbimgonaaDoor
open Go.RowKit Go.Shelf
set_option linter.unusedVariables false
set_option linter.unusedSimpArgs false
attribute [local go_sem] Oper.semAt_some

abbrev lanesV (a : Nat → Nat) : Array Value := row_ .u64 25 (fun i => (a i : Int))
abbrev colsV (c : Nat → Nat) : Array Value := row_ .u64 5 (fun i => (c i : Int))

theorem info24 : (Tryd.prog.info? 24).map (·.size) = some 25 := by kernel_rfl
theorem info40 : (Tryd.prog.info? 40).map (·.size) = some 24 := by kernel_rfl
theorem Holds_.obj {w : World} {g : Nat} {t : TypeId} {cs : Array Value} (h : Holds_ w g t cs) {D : Nat} (hD : g ≠ D) (o : Obj) : Holds_ (w.putObj D o) g t cs := (World.putObj_heap_other hD).trans h
theorem laneXY_any (k x y : Nat) (hx : k % 5 = x) (hy : k / 5 = y) (hk : k < 25) (w : World) :
    Calls Tryd.prog 31 #[.int .i64 (x : Int), .int .i64 (y : Int)] w fun e w' => e = .returned (.int .i64 (k : Int)) ∧ w = w' := by
  refine (lane_any _ _ _ (by omega) (by omega) (by omega) (by omega)).mono ?_
  rintro e w' ⟨rfl, rfl⟩
  exact ⟨ret_int (by omega), rfl⟩

theorem Holds_.putN {w : World} {g : Nat} {t : TypeId} {n : Nat} {f : Nat → Nat} (h : Holds_ w g t (row_ .u64 n (fun i => (f i : Int)))) (i v : Nat) (hi : i < n) :
    Holds_ (w.setCell ⟨g, i, none⟩ (.int .u64 (v : Int))) g t (row_ .u64 n (fun j => ((Kec.upd f i v j : Nat) : Int))) := by
  have h1 := h.put i (.int .u64 (v : Int))
  rw [row_put _ _ _ _ _ hi] at h1
  rw [row_congr (f' := fun j => if j = i then (v : Int) else (f j : Int)) (fun j _ => by simp only [Kec.upd]; split <;> rfl)]
  exact h1

def colL (a : Nat → Nat) (pre : List (Fin 25)) : Nat → Nat := pre.foldl (fun c k => Kec.upd c (k.1 % 5) (c (k.1 % 5) ^^^ a k.1)) (fun _ => 0)
theorem colL_snoc (a : Nat → Nat) (pre : List (Fin 25)) (k : Fin 25) : colL a (pre ++ [k]) = Kec.upd (colL a pre) (k.1 % 5) (colL a pre (k.1 % 5) ^^^ a k.1) := by simp [colL]
theorem colL_all (a : Nat → Nat) : colL a allP = Kec.colTo a 25 := rfl
theorem colL_lt (a : Nat → Nat) (ha : Kec.Ok a) (pre : List (Fin 25)) (c : Nat → Nat) (hc : ∀ x, c x < 2 ^ 64) : ∀ x, pre.foldl (fun c k => Kec.upd c (k.1 % 5) (c (k.1 % 5) ^^^ a k.1)) c x < 2 ^ 64 := by
  induction pre generalizing c with
  | nil => exact hc
  | cons k pre ih =>
    refine ih _ fun x => ?_
    show Kec.upd c (k.1 % 5) (c (k.1 % 5) ^^^ a k.1) x < _
    unfold Kec.upd
    split
    · exact Nat.xor_lt_two_pow (hc _) (ha _ k.2)
    · exact hc x
theorem colL_ok (a : Nat → Nat) (ha : Kec.Ok a) (pre : List (Fin 25)) (x : Nat) : colL a pre x < 2 ^ 64 := colL_lt a ha pre _ (fun _ => by decide) x
def thL (a c : Nat → Nat) (pre : List (Fin 25)) : Nat → Nat := pre.foldl (fun f k => Kec.upd f k.1 (f k.1 ^^^ Kec.thD c (k.1 % 5))) a
theorem thL_snoc (a c : Nat → Nat) (pre : List (Fin 25)) (k : Fin 25) : thL a c (pre ++ [k]) = Kec.upd (thL a c pre) k.1 (thL a c pre k.1 ^^^ Kec.thD c (k.1 % 5)) := by simp [thL]
theorem thL_ok (a : Nat → Nat) (ha : Kec.Ok a) (pre : List (Fin 25)) (i : Nat) (hi : i < 25) : thL a (Kec.colTo a 25) pre i < 2 ^ 64 := by
  have hd : ∀ x, Kec.thD (Kec.colTo a 25) x < 2 ^ 64 := fun x => Nat.xor_lt_two_pow (by rw [← colL_all]; exact colL_ok a ha _ _) (Kec.rotl_lt _ _ (by rw [← colL_all]; exact colL_ok a ha _ _))
  have : ∀ (pre : List (Fin 25)) (f : Nat → Nat), Kec.Ok f → Kec.Ok (pre.foldl (fun f k => Kec.upd f k.1 (f k.1 ^^^ Kec.thD (Kec.colTo a 25) (k.1 % 5))) f) := by
    intro pre
    induction pre with
    | nil => exact fun f h => h
    | cons k pre ih =>
      intro f hf
      refine ih _ fun j hj => ?_
      show Kec.upd f k.1 _ j < _
      unfold Kec.upd
      split
      · exact Nat.xor_lt_two_pow (hf _ k.2) (hd _)
      · exact hf j hj
  exact this pre a ha i hi
theorem thL_all (a c : Nat → Nat) : thL a c allP = Kec.thTo a c 25 := rfl

set_option maxRecDepth 100000 in
set_option maxHeartbeats 2000000 in
theorem theta_any (a : Nat → Nat) (ha : Kec.Ok a) (w : World) :
    Calls Tryd.prog 20 #[.agg (lanesV a)] w fun e W' => e = .returned (.agg (lanesV (Kec.theta a))) ∧ Below w.heap.size w W' := by
  refine (callsIn_wide (n := 3)).1 ?_
  refine callsIn_of_wp_marks Tryd.func20 rfl trivial ?_ rfl
  simp only [Tryd.ntmps20, List.size_toArray, List.length_cons, List.length_nil, Nat.reduceAdd, Nat.reduceSub, Array.replicate_succ, Array.replicate_zero, List.push_toArray, List.append_toArray, List.nil_append, List.cons_append]
  gi_wp2_with (refine ⟨trivial, ?_⟩; gi_at_call 30; refine (callsIn_wide.2 (places_any _)).mono ?_; rintro e w' ⟨rfl, rfl⟩)
  refine wpIn_abs (fun W => (Holds_ W w.heap.size 24 (lanesV a) ∧ Holds_ W (w.heap.size + 1 + 1) 53 (colsV (fun _ => 0))) ∧ Holds_ W (w.heap.size + 1) 24 (lanesV (fun _ => 0)) ∧ Below w.heap.size w W) ?f0 ?g0
  case f0 =>
    have h0 := Holds_.new w 24 (lanesV a)
    have h1 := Holds_.new (w.alloc (.cells (lanesV a) 24)) 24 (lanesV (fun _ => 0))
    have h2 := Holds_.new ((w.alloc (.cells (lanesV a) 24)).alloc (.cells (lanesV (fun _ => 0)) 24)) 53 (colsV (fun _ => 0))
    simp only [World.size_alloc] at h1 h2
    refine ⟨⟨(h0.alloc _).alloc _, h2⟩, h1.alloc _, ?_⟩
    exact (((Below.refl _ _).alloc (Nat.le_refl _) _).alloc (by simp) _).alloc (by simp; omega) _
  rintro W1 ⟨⟨hA, hC⟩, hR, hB⟩
  have hl1 := hC.lt
  refine' wpIn_rangeFunc_ownG rfl (by omega) (gf := 35) (lb := #[]) rfl trivial (enters_of Tryd.func35 (by kernel_rfl) rfl)
    (places_stops Fence.wide 2 trivial rfl (by omega) W1) walksK_t walksK_b (Below.refl _ _) (fun _ => rfl)
    (fun pre W => (Holds_ W w.heap.size 24 (lanesV a) ∧ Holds_ W (w.heap.size + 1 + 1) 53 (colsV (colL a pre))) ∧ Holds_ W (w.heap.size + 1) 24 (lanesV (fun _ => 0)) ∧ Below w.heap.size w W)
    (fun _ _ _ => False)
    (OwnFrom.and (OwnFrom.and (Own.from (Holds_.own _ _ _) _) (Own.from (Holds_.own _ _ _) _)) (OwnFrom.and (Own.from (Holds_.own _ _ _) _) (ownFrom_below (Nat.le_refl _) hB.size)))
    (fun _ _ _ _ _ hs _ _ => hs)
    ⟨⟨hA, hC⟩, hR, hB⟩ _ ?assign ?body ?done ?stop
  case assign =>
    intro l x W K hK
    gi_wp2
    exact hK
  case body =>
    rintro l pre ⟨k, hk⟩ W ⟨⟨hA, hC⟩, hR, hB⟩ _
    dsimp only
    obtain ⟨x, hx⟩ : ∃ x, k % 5 = x := ⟨_, rfl⟩
    obtain ⟨y, hy⟩ : ∃ y, k / 5 = y := ⟨_, rfl⟩
    rw [show (k : Int) % 5 = (x : Int) from by omega, show (k : Int) / 5 = (y : Int) from by omega]
    have hx5 : (x : Int) < 5 := by omega
    have hk5 : (k : Int) < 25 := by omega
    have Hl := laneXY_any k x y hx hy hk
    have hpre : colL a (pre ++ [⟨k, hk⟩]) = Kec.upd (colL a pre) x (colL a pre x ^^^ a k) := by rw [colL_snoc]; simp only [hx]
    have Hpre := Lib.hid hpre
    clear hx hy hpre
    have hc1 : W.cell? ⟨w.heap.size + 1 + 1, x, none⟩ = some (.int .u64 (colL a pre x : Nat)) := (hC.cell _).trans (row_get _ _ _ _ (by omega))
    have hc2 : W.cell? ⟨w.heap.size, k, none⟩ = some (.int .u64 (a k : Nat)) := (hA.cell _).trans (row_get _ _ _ _ hk)
    have hf1 : W.frozen? ⟨w.heap.size + 1 + 1, x, none⟩ = false := hC.free _
    gi_wp2
    refine wpIn_region_still_tail ?hq 9 (by kernel_rfl) (by kernel_rfl) ?_
    case hq => exact fun ⟨_, _, h⟩ => h
    simp only [List.take_succ_cons, List.take_zero, List.drop_succ_cons, List.drop_zero]
    repeat still_step
    still_call (same_of (Hl _))
    repeat still_step
    refine wpStill_nil ?_
    go_wp2
    rw [u64_xor_nat _ _ (colL_ok a ha pre x) (ha k hk)]
    refine ⟨((KeepsOthers.setCell _ _ _).trans (KeepsOthers.drew _)).from _, ((KeepsOthers.setCell _ _ _).trans (KeepsOthers.drew _)).walks, ⟨?_, ?_⟩, ?_, ?_⟩
    · exact (hA.far (p := ⟨w.heap.size + 1 + 1, x, none⟩) (by simp; omega) _).drew
    · rw [Hpre.out]
      exact (hC.putN x _ (by omega)).drew
    · exact (hR.far (p := ⟨w.heap.size + 1 + 1, x, none⟩) (by simp) _).drew
    · exact (hB.setCell (p := ⟨w.heap.size + 1 + 1, x, none⟩) (by simp; omega) _).drew
  case done =>
    rintro D1 xs W2 hD1 rfl ⟨⟨hA, hC⟩, hR, hB⟩ hK1
    rw [colL_all] at hC
    have hl2 := hC.lt
    have hlt := lt_of_heap hK1
    gi_wp2_with (first | (refine ⟨trivial, ?_⟩; gi_at_call 30; refine (callsIn_wide.2 (places_any _)).mono ?_; rintro e w' ⟨rfl, rfl⟩) | (gi_at_call 30; refine (callsIn_wide.2 (places_any _)).mono ?_; rintro e w' ⟨rfl, rfl⟩))
    refine' wpIn_rangeFunc_ownG rfl (by omega) (gf := 35) (lb := #[]) rfl trivial (enters_of Tryd.func35 (by kernel_rfl) rfl)
      (places_stops Fence.wide 2 trivial rfl (by omega) W2) walksK_t walksK_b (Below.refl _ _) (fun _ => rfl)
      (fun pre W => (Holds_ W w.heap.size 24 (lanesV (thL a (Kec.colTo a 25) pre)) ∧ Holds_ W (w.heap.size + 1 + 1) 53 (colsV (Kec.colTo a 25))) ∧ (Holds_ W (w.heap.size + 1) 24 (lanesV (fun _ => 0)) ∧ Below w.heap.size w W) ∧ W.heap[D1]? = some (.deferred (some [])))
      (fun _ _ _ => False)
      (OwnFrom.and (OwnFrom.and (Own.from (Holds_.own _ _ _) _) (Own.from (Holds_.own _ _ _) _)) (OwnFrom.and (OwnFrom.and (Own.from (Holds_.own _ _ _) _) (ownFrom_below (Nat.le_refl _) hB.size)) (ownFrom_at (lt_of_heap hK1) (fun _ => lt_of_heap))))
      (fun _ _ _ _ _ hs _ _ => hs)
      ⟨⟨hA, hC⟩, ⟨hR, hB⟩, hK1⟩ _ ?assign2 ?body2 ?done2 ?stop2
    case assign2 =>
      intro l x W K hK
      gi_wp2
      exact hK
    case body2 =>
      rintro l pre ⟨k, hk⟩ W ⟨⟨hA, hC⟩, ⟨hR, hB⟩, hK1⟩ _
      dsimp only
      obtain ⟨x, hx⟩ : ∃ x, k % 5 = x := ⟨_, rfl⟩
      obtain ⟨y, hy⟩ : ∃ y, k / 5 = y := ⟨_, rfl⟩
      rw [show (k : Int) % 5 = (x : Int) from by omega, show (k : Int) / 5 = (y : Int) from by omega]
      have hx5 : (x : Int) < 5 := by omega
      have hk5 : (k : Int) < 25 := by omega
      have Hl := laneXY_any k x y hx hy hk
      have hpre : thL a (Kec.colTo a 25) (pre ++ [⟨k, hk⟩]) = Kec.upd (thL a (Kec.colTo a 25) pre) k (thL a (Kec.colTo a 25) pre k ^^^ Kec.thD (Kec.colTo a 25) x) := by rw [thL_snoc]; simp only [hx]
      have Hpre := Lib.hid hpre
      clear hx hy hpre
      obtain ⟨c, Hc⟩ : ∃ c, Hid (c = Kec.colTo a 25) := ⟨_, Lib.hid rfl⟩
      rw [← Hc.out] at hC Hpre hA ⊢
      obtain ⟨p, hp⟩ : ∃ p, (x + 4) % 5 = p := ⟨_, rfl⟩
      obtain ⟨q, hq⟩ : ∃ q, (x + 1) % 5 = q := ⟨_, rfl⟩
      have hc1 : W.cell? ⟨w.heap.size + 1 + 1, p, none⟩ = some (.int .u64 (c p : Nat)) := (hC.cell _).trans (row_get _ _ _ _ (by omega))
      have hc2 : W.cell? ⟨w.heap.size + 1 + 1, q, none⟩ = some (.int .u64 (c q : Nat)) := (hC.cell _).trans (row_get _ _ _ _ (by omega))
      have hc3 : W.cell? ⟨w.heap.size, k, none⟩ = some (.int .u64 (thL a c pre k : Nat)) := (hA.cell _).trans (row_get _ _ _ _ hk)
      have hf1 : W.frozen? ⟨w.heap.size, k, none⟩ = false := hA.free _
      have hp5 : (p : Int) < 5 := by omega
      have hq5 : (q : Int) < 5 := by omega
      have hcq : c q < 18446744073709551616 := by rw [Hc.out, ← colL_all]; exact colL_ok a ha _ _
      have hcp : c p < 18446744073709551616 := by rw [Hc.out, ← colL_all]; exact colL_ok a ha _ _
      have Hr := fun W => rotl_any (c q) 1 W hcq (by omega) (by omega)
      have w1 : IntKind.i64.wrap ((x : Int) + 5) = (x : Int) + 5 := IntWalk.i64_in _ (by omega)
      have w2 : IntKind.i64.wrap ((x : Int) + 5 - 1) = (x : Int) + 4 := (IntWalk.i64_in _ (by omega)).trans (by omega)
      have w4 : IntKind.i64.wrap ((x : Int) + 1) = (x : Int) + 1 := IntWalk.i64_in _ (by omega)
      have w3 : ((x : Int) + 4).tmod 5 = (p : Int) := by rw [Int.tmod_eq_emod_of_nonneg (by omega)]; omega
      have w5 : ((x : Int) + 1).tmod 5 = (q : Int) := by rw [Int.tmod_eq_emod_of_nonneg (by omega)]; omega
      have Hp := Lib.hid hp
      have Hq := Lib.hid hq
      clear hp hq
      gi_wp2
      refine wpIn_region_still_tail ?hq 19 (by kernel_rfl) (by kernel_rfl) ?_
      case hq => exact fun ⟨_, _, h⟩ => h
      simp only [List.take_succ_cons, List.take_zero, List.drop_succ_cons, List.drop_zero]
      repeat still_step
      still_call (same_of (Hl _))
      repeat still_step
      still_call (same_of (Hr _))
      repeat still_step
      refine wpStill_nil ?_
      clear w1 w2 w3 w4 w5
      go_wp2
      rw [u64_xor_nat _ _ hcp (Kec.rotl_lt _ _ hcq)]
      have hth : thL a c pre k < 18446744073709551616 := by rw [Hc.out]; exact thL_ok a ha pre k hk
      rw [u64_xor_nat _ _ hth (Nat.xor_lt_two_pow hcp (Kec.rotl_lt _ _ hcq))]
      refine ⟨((KeepsOthers.setCell _ _ _).trans (KeepsOthers.drew _)).from _, ((KeepsOthers.setCell _ _ _).trans (KeepsOthers.drew _)).walks, ⟨?_, ?_⟩, ⟨?_, ?_⟩, ?_⟩
      · rw [Hpre.out, Kec.thD, Hp.out, Hq.out]
        exact (hA.putN k _ hk).drew
      · exact (hC.far (p := ⟨w.heap.size, k, none⟩) (by simp; omega) _).drew
      · exact (hR.far (p := ⟨w.heap.size, k, none⟩) (by simp) _).drew
      · exact (hB.setCell (p := ⟨w.heap.size, k, none⟩) (Nat.le_refl _) _).drew
      · exact ((KeepsOthers.setCell _ _ _).trans (KeepsOthers.drew _)).same _ _ hK1 rfl
    case done2 =>
      rintro D2 xs W3 hD2 rfl ⟨⟨hA, hC⟩, ⟨hR, hB⟩, hK1'⟩ hK2
      rw [thL_all] at hA
      gi_wp2_with (first
        | (with_reducible show wpListIn _ _ _ _ _ (⟨some 44, _, _, _, _, _⟩ :: _) _ _; refine wpListIn_loadRow rfl 24 _ rfl w.heap.size rfl 24 _ _ hA Tryd.underlying24 rfl (by rw [row_size]; exact info24) ?_)
        | (with_reducible show wpListIn _ _ _ _ _ (⟨none, _, _, _, _, _⟩ :: _) _ _; refine wpListIn_storeRow rfl 24 _ _ rfl (w.heap.size + 1) _ rfl rfl 24 _ hR (by rw [row_size]; exact info24) (by simp [row_size]) (row_one _ _ _) ?_))
      have hR2 := hR.putRow (lanesV (Kec.theta a))
      have hK2' : (W3.setRow (w.heap.size + 1) (lanesV (Kec.theta a))).heap[D2]? = some (.deferred (some [])) := (setRow_other _ _ _ _ (by omega)).trans hK2
      have hK1'' : ((W3.setRow (w.heap.size + 1) (lanesV (Kec.theta a))).putObj D2 (.deferred none)).heap[D1]? = some (.deferred (some [])) :=
        (World.putObj_heap_other (by omega)).trans ((setRow_other _ _ _ _ (by omega)).trans hK1')
      refine ⟨by simp, .inl ⟨D2, _, rfl, run_takeDeferred hK2', by simp, .inl ⟨D1, _, rfl, run_takeDeferred hK1'', _, results_cell_row rfl _ _ (w.heap.size + 1) 24 _ (0, 0) _ rfl ((hR2.obj (by omega) _).obj (by omega) _) Tryd.underlying24 rfl (by rw [row_size]; exact info24), rfl, ?_⟩⟩⟩
      have hsz := hB.size
      refine ((below_putRow hB (by omega) _).grown (grownBy_putObj' _ D2 _) (by simp; omega) (fun k e => by cases e; omega)).grown (grownBy_putObj' _ D1 _) (by simp; omega) (fun k e => by cases e; omega)
    case stop2 =>
      rintro D c pre W _ _ h _
      exact h.elim
  case stop =>
    rintro D c pre W _ _ h _
    exact h.elim
end Go.Proofs.YtblfodhbimgonaaDoor
