/- KeccakUnlike, by its walk. -/
import Derived.Test.YtblfodhbimgonaaDoorWk
import Derived.Test.YtblfodhbimgonaaDoorQu
import Derived.Test.YtblfodhbimgonaaDoorKecI
namespace Go.Proofs.YtblfodhbimgonaaDoor
open Go.RowKit Go.Shelf
set_option linter.unusedVariables false
set_option linter.unusedSimpArgs false

abbrev same25 (a b : Nat → Nat) : Bool := sameI 25 (fun i => (a i : Int)) (fun i => (b i : Int))
theorem run_equalIn_lanes (W : World) (a b : Nat → Nat) : (Op.equalIn 10000 24 (.agg (lanesV a)) (.agg (lanesV b))).run Tryd.prog W = .ok (same25 a b) W :=
  run_equalIn_row W 24 22 25 .u64 .u64 _ _ Tryd.underlying24 Tryd.underlying22 info22

set_option maxRecDepth 100000 in
set_option maxHeartbeats 4000000 in
theorem unlike_walk (a b : Nat → Nat) (ha : Kec.Ok a) (hb : Kec.Ok b) (w : World) (hT : Table w) :
    Calls Tryd.prog 6 #[.agg (lanesV a), .agg (lanesV b)] w fun e W' => e = .returned (.bool (same25 (Kec.perm a) (Kec.perm b) == same25 a b)) ∧ Below w.heap.size w W' := by
  go_enter Tryd.func6, Tryd.ntmps6
  go_wp2_with fail
  have hB0 : Below w.heap.size w ((w.alloc (.cells (lanesV a) 24)).alloc (.cells (lanesV b) 24)) := ((Below.refl _ _).alloc (Nat.le_refl _) _).alloc (by simp) _
  have hA0 := (Holds_.new w 24 (lanesV a)).alloc (.cells (lanesV b) 24)
  have hC0 := Holds_.new (w.alloc (.cells (lanesV a) 24)) 24 (lanesV b)
  simp only [World.size_alloc] at hC0
  refine (awake_any _ (hT.below hB0)).mono ?_
  rintro e w1 ⟨rfl, hb1⟩
  have hA1 := hA0.below hb1 hA0.lt
  have hC1 := hC0.below hb1 hC0.lt
  have hB1 := hB0.trans (hb1.mono hB0.size)
  clear hb1 hA0 hC0 hB0
  go_wp2_with fail
  have hcls : ∀ (f : Nat → Nat), Kec.Ok f → ∀ W : World, (Holds_ W w.heap.size 24 (lanesV a) ∧ Holds_ W (w.heap.size + 1) 24 (lanesV b) ∧ Below w.heap.size w W) →
      Calls Tryd.prog 11 #[.agg (lanesV f)] W fun e W' => e = .returned (.agg (lanesV (Kec.perm f))) ∧ (Holds_ W' w.heap.size 24 (lanesV a) ∧ Holds_ W' (w.heap.size + 1) 24 (lanesV b) ∧ Below w.heap.size w W') := fun f hf W hW =>
    (permute_any f hf W (hT.below hW.2.2)).mono fun e W' h => ⟨h.1, hW.1.below h.2 hW.1.lt, hW.2.1.below h.2 hW.2.1.lt, hW.2.2.trans (h.2.mono hW.2.2.size)⟩
  have e1 : ∀ W, (Op.equalIn 10000 24 (.agg (lanesV (Kec.perm a))) (.agg (lanesV (Kec.perm b)))).run Tryd.prog W = .ok (same25 (Kec.perm a) (Kec.perm b)) W := fun W => run_equalIn_lanes W _ _
  have e2 : ∀ W, (Op.equalIn 10000 24 (.agg (lanesV a)) (.agg (lanesV b))).run Tryd.prog W = .ok (same25 a b) W := fun W => run_equalIn_lanes W _ _
  have hca := hcls a ha
  have hcb := hcls b hb
  clear hcls
  obtain ⟨r1, h1⟩ : ∃ r, same25 (Kec.perm a) (Kec.perm b) = r := ⟨_, rfl⟩
  obtain ⟨r2, h2⟩ : ∃ r, same25 a b = r := ⟨_, rfl⟩
  obtain ⟨pa, h3⟩ : ∃ r, Kec.perm a = r := ⟨_, rfl⟩
  obtain ⟨pb, h4⟩ : ∃ r, Kec.perm b = r := ⟨_, rfl⟩
  rw [h1, h3, h4] at e1
  rw [h2] at e2
  rw [h3] at hca
  rw [h4] at hcb
  have H1 := Lib.hid h1
  have H2 := Lib.hid h2
  clear h1 h2 h3 h4
  refine wp_region_quiet_class (fun W => Holds_ W w.heap.size 24 (lanesV a) ∧ Holds_ W (w.heap.size + 1) 24 (lanesV b) ∧ Below w.heap.size w W) (by kernel_rfl) (by kernel_rfl) ⟨hA1.drew, hC1.drew, hB1.drew⟩ ?_
  iterate 2 (refine wpQuiet_step (fun K hK => ?_); go_simp; refine ⟨_, ⟨fun _ _ _ _ => rfl, hK _ ?_⟩⟩; clear hK K)
  refine BigFrame.wpQuiet_want rfl (fun K hK => ?_)
  refine quiet_load_row 24 _ rfl w.heap.size rfl 24 (lanesV a) _ (fun W hW => hW.1) Tryd.underlying24 rfl (by rw [row_size]; exact info24) ?_
  go_simp; refine hK _ ?_; clear hK K
  refine BigFrame.wpQuiet_want rfl (fun K hK => ?_)
  refine quiet_call 11 #[.agg (lanesV a)] _ (fun W hW => by go_simp) hca ?_
  go_simp; refine hK _ ?_; clear hK K
  refine BigFrame.wpQuiet_want rfl (fun K hK => ?_)
  refine quiet_load_row 24 _ rfl (w.heap.size + 1) rfl 24 (lanesV b) _ (fun W hW => hW.2.1) Tryd.underlying24 rfl (by rw [row_size]; exact info24) ?_
  go_simp; refine hK _ ?_; clear hK K
  refine BigFrame.wpQuiet_want rfl (fun K hK => ?_)
  refine quiet_call 11 #[.agg (lanesV b)] _ (fun W hW => by go_simp) hcb ?_
  go_simp; refine hK _ ?_; clear hK K
  refine BigFrame.wpQuiet_want rfl (fun K hK => ?_)
  refine quiet_run (.bool r1) (fun W hW => by go_simp) ?_
  go_simp; refine hK _ ?_; clear hK K
  refine BigFrame.wpQuiet_want rfl (fun K hK => ?_)
  refine quiet_load_row 24 _ rfl w.heap.size rfl 24 (lanesV a) _ (fun W hW => hW.1) Tryd.underlying24 rfl (by rw [row_size]; exact info24) ?_
  go_simp; refine hK _ ?_; clear hK K
  refine BigFrame.wpQuiet_want rfl (fun K hK => ?_)
  refine quiet_load_row 24 _ rfl (w.heap.size + 1) rfl 24 (lanesV b) _ (fun W hW => hW.2.1) Tryd.underlying24 rfl (by rw [row_size]; exact info24) ?_
  go_simp; refine hK _ ?_; clear hK K
  refine BigFrame.wpQuiet_want rfl (fun K hK => ?_)
  refine quiet_run (.bool r2) (fun W hW => by go_simp) ?_
  go_simp; refine hK _ ?_; clear hK K
  refine BigFrame.wpQuiet_want rfl (fun K hK => ?_)
  refine quiet_run (.bool (r1 == r2)) (fun W hW => by go_simp) ?_
  go_simp; refine hK _ ?_; clear hK K
  iterate 2 (refine wpQuiet_step (fun K hK => ?_); go_simp; refine ⟨_, ⟨fun _ _ _ _ => rfl, hK _ ?_⟩⟩; clear hK K)
  refine wpQuiet_nil ?_
  rintro W hW
  go_wp2
  go_ret
  refine ⟨?_, hW.2.2⟩
  rw [H1.out, H2.out]
  rfl
theorem unlike_true (a b : Nat → Nat) (ha : Kec.Ok a) (hb : Kec.Ok b) (w : World) (hT : Table w) :
    Calls Tryd.prog 6 #[.agg (lanesV a), .agg (lanesV b)] w fun e W' => e = .returned (.bool true) ∧ Below w.heap.size w W' := by
  refine (unlike_walk a b ha hb w hT).mono fun e W' ⟨he, hb'⟩ => ⟨?_, hb'⟩
  have h : (same25 (Kec.perm a) (Kec.perm b) == same25 a b) = true := by
    rw [beq_iff_eq, Bool.eq_iff_iff, sameI_eq, sameI_eq]
    exact Kec.perm_iff ha hb
  rw [he, h]
end Go.Proofs.YtblfodhbimgonaaDoor
