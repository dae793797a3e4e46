/- Permute, by its walk. -/
import Derived.Test.YtblfodhbimgonaaDoorWe
namespace Go.Proofs.YtblfodhbimgonaaDoor
open Go.RowKit Go.Shelf
set_option linter.unusedVariables false
set_option linter.unusedSimpArgs false

/-- The table of the rounds' numbers lies where the program's variable lies. -/
abbrev constsV : Array Value := row_ .u64 24 (fun i => ((Kec.consts.getD i 0 : Nat) : Int))
abbrev Table (w : World) : Prop := Reads_ w 0 constsV
theorem Table.pos {w : World} (h : Table w) : 0 < w.heap.size := block_lt_of_cell (h 0 _ (row_get _ _ _ 0 (by omega)))
theorem info22 : (Tryd.prog.info? 22).map (·.size) = some 1 := by kernel_rfl

set_option maxRecDepth 100000 in
set_option maxHeartbeats 2000000 in
theorem permute_any (a : Nat → Nat) (ha : Kec.Ok a) (w : World) (hT : Table w) :
    Calls Tryd.prog 11 #[.agg (lanesV a)] w fun e W' => e = .returned (.agg (lanesV (Kec.perm a))) ∧ Below w.heap.size w W' := by
  have hT0 := hT.pos
  go_enter Tryd.func11, Tryd.ntmps11
  go_wp2_with (with_reducible show wpList _ _ _ (⟨some 5, _, _, _, _, _⟩ :: _) _ _; refine wpList_loadCells rfl 40 _ rfl 0 rfl constsV _ ?_ Tryd.underlying40 rfl (by rw [row_size]; exact info40) ?_)
  case refine_1 => exact hT.below (((Below.refl _ _).alloc (Nat.le_refl _) _).alloc (by simp) _) hT0
  refine wp_abs (fun W => Holds_ W w.heap.size 24 (lanesV a) ∧ Holds_ W (w.heap.size + 1) 24 (lanesV (fun _ => 0)) ∧ Below w.heap.size w W) ?f0 ?g0
  case f0 =>
    have h0 := Holds_.new w 24 (lanesV a)
    have h1 := Holds_.new (w.alloc (.cells (lanesV a) 24)) 24 (lanesV (fun _ => 0))
    simp only [World.size_alloc] at h1
    exact ⟨h0.alloc _, h1, ((Below.refl _ _).alloc (Nat.le_refl _) _).alloc (by simp) _⟩
  rintro W1 ⟨hA, hR, hB⟩
  have hl1 := hR.lt
  go_loopw [6] (fun t wr => ∃ k : Nat, k ≤ 24 ∧ t = .int .i64 k ∧ Holds_ wr w.heap.size 24 (lanesV ((Kec.consts.take k).foldl Kec.rnd a)) ∧ Holds_ wr (w.heap.size + 1) 24 (lanesV (fun _ => 0)) ∧ Below w.heap.size w wr)
    (fun t _ => 24 - (intOf t).toNat)
  case atStart => exact ⟨0, by omega, rfl, hA, hR, hB⟩
  case round =>
    obtain ⟨k, hk, rfl, hA, hR, hB⟩ := hrel
    by_cases hlt : k < 24
    · have hlen : Kec.consts.length = 24 := rfl
      have hstep : (Kec.consts.take (k + 1)).foldl Kec.rnd a = Kec.rnd ((Kec.consts.take k).foldl Kec.rnd a) (Kec.consts.getD k 0) := by
        rw [List.take_succ_eq_append_getElem (by omega), List.foldl_append]
        simp [List.getD, hlen, hlt]
      have hok := Kec.fold_ok (Kec.consts.take k) a ha (fun c hc => Kec.consts_lt c (List.mem_of_mem_take hc))
      have hcl : Kec.consts.getD k 0 < 2 ^ 64 := Kec.consts_lt _ (by simp [List.getD, hlen, hlt])
      generalize (Kec.consts.take k).foldl Kec.rnd a = b at *
      have hidx := fun W => run_index_row (P := Tryd.prog) 40 22 24 .u64 .i64 (fun i => ((Kec.consts.getD i 0 : Nat) : Int)) k Tryd.underlying40 Tryd.underlying22 info22 hlt W
      have HS := Lib.hid hstep
      clear hstep
      generalize Kec.consts.getD k 0 = c at *
      have ht := Kec.theta_ok b hok
      have hu := Kec.turn_ok _ ht
      have hc := Kec.chi_ok _ hu
      go_wp2_with (with_reducible show wpList _ _ _ (⟨some 9, _, _, _, _, _⟩ :: _) _ _; refine wpList_loadRow rfl 24 _ rfl w.heap.size rfl 24 _ _ hA Tryd.underlying24 rfl (by rw [row_size]; exact info24) ?_)
      refine (theta_any b hok _).mono ?_
      rintro e w2 ⟨rfl, hb2⟩
      go_wp2_with fail
      refine (turn_any _ ht _).mono ?_
      rintro e w3 ⟨rfl, hb3⟩
      go_wp2_with fail
      refine (chi_any _ hu _).mono ?_
      rintro e w4 ⟨rfl, hb4⟩
      have hA4 : Holds_ w4 w.heap.size 24 (lanesV b) := ((hA.below hb2 hA.lt).below hb3 (hA.below hb2 hA.lt).lt).below hb4 ((hA.below hb2 hA.lt).below hb3 (hA.below hb2 hA.lt).lt).lt
      have hR4 : Holds_ w4 (w.heap.size + 1) 24 (lanesV (fun _ => 0)) := ((hR.below hb2 hR.lt).below hb3 (hR.below hb2 hR.lt).lt).below hb4 ((hR.below hb2 hR.lt).below hb3 (hR.below hb2 hR.lt).lt).lt
      have hB4 : Below w.heap.size w w4 := hB.trans ((hb2.mono hB.size).trans ((hb3.mono (Nat.le_trans hB.size hb2.size)).trans (hb4.mono (Nat.le_trans (Nat.le_trans hB.size hb2.size) hb3.size))))
      have hrn : Kec.rnd b c = Kec.upd (Kec.chi (Kec.turn (Kec.theta b))) 0 (Kec.chi (Kec.turn (Kec.theta b)) 0 ^^^ c) := rfl
      have HN := Lib.hid hrn
      clear hrn
      generalize Kec.chi (Kec.turn (Kec.theta b)) = d at *
      have hA5 := hA4.putRow (lanesV d)
      have hc0 : (w4.setRow w.heap.size (lanesV d)).cell? ⟨w.heap.size, 0, none⟩ = some (.int .u64 (d 0 : Nat)) := (hA5.cell _).trans (row_get _ _ _ _ (by omega))
      have hf0 : (w4.setRow w.heap.size (lanesV d)).frozen? ⟨w.heap.size, 0, none⟩ = false := hA5.free _
      go_wp2_with (with_reducible show wpList _ _ _ (⟨none, _, _, _, _, _⟩ :: _) _ _; refine wpList_storeRow rfl 24 _ _ rfl w.heap.size _ rfl rfl 24 _ hA4 (by rw [row_size]; exact info24) (by simp [row_size]) (row_one _ _ _) ?_)
      rw [u64_xor_nat _ _ (hc 0 (by omega)) hcl]
      refine ⟨⟨k + 1, by omega, by go_num, ?_, ?_, ?_⟩, by simp [intOf]; omega⟩
      · rw [HS.out, HN.out]
        exact hA5.putN 0 _ (by omega)
      · exact (hR4.farRow (by omega) _).far (p := ⟨w.heap.size, 0, none⟩) (by simp) _
      · exact (below_putRow hB4 (Nat.le_refl _) _).setCell (p := ⟨w.heap.size, 0, none⟩) (Nat.le_refl _) _
    · obtain rfl : k = 24 := by omega
      go_wp2_with (first
        | (with_reducible show wpList _ _ _ (⟨some 19, _, _, _, _, _⟩ :: _) _ _; refine wpList_loadRow rfl 24 _ rfl w.heap.size rfl 24 _ _ hA Tryd.underlying24 rfl (by rw [row_size]; exact info24) ?_)
        | (with_reducible show wpList _ _ _ (⟨none, _, _, _, _, _⟩ :: _) _ _; refine wpList_storeRow rfl 24 _ _ rfl (w.heap.size + 1) _ rfl rfl 24 _ hR (by rw [row_size]; exact info24) (by simp [row_size]) (row_one _ _ _) ?_))
      have hR2 := hR.putRow (lanesV (Kec.perm a))
      exact bodyPost_ret (results_cell_row rfl _ _ (w.heap.size + 1) 24 _ (0, 0) _ rfl hR2 Tryd.underlying24 rfl (by rw [row_size]; exact info24)) rfl ⟨rfl, below_putRow hB (by omega) _⟩
end Go.Proofs.YtblfodhbimgonaaDoor
