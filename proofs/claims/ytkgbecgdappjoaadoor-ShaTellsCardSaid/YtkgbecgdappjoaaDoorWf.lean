/- Of, of the words and of the document's words, at small numbers. -/
import Derived.Test.YtkgbecgdappjoaaDoorMx
namespace Go.Proofs.YtkgbecgdappjoaaDoor
open Go.RowKit Go.Shelf
set_option linter.unusedVariables false
set_option linter.unusedSimpArgs false

abbrev wordV (f : Nat → Nat) : Array Value := row_ .u64 4 (fun i => (f i : Int))
def ofN (n : Nat) : Nat → Nat := fun i => if i = 0 then n else 0
theorem info24 : (Tryd.prog.info? 24).map (·.size) = some 4 := by kernel_rfl
theorem wordV_of (n : Nat) : wordV (ofN n) = #[.int .u64 n, .int .u64 0, .int .u64 0, .int .u64 0] := rfl

set_option maxRecDepth 100000 in
theorem word_of (n : Nat) (hn : n ≤ 1000000) (w : World) : Calls Tryd.prog 22 #[.int .i64 n] w fun e W' => e = .returned (.agg (wordV (ofN n))) ∧ Below w.heap.size w W' := by
  have e2 : (n : Int) / 9223372036854775808 = 0 := by omega
  go_enter Tryd.func22, Tryd.ntmps22
  go_wp2_with fail
  exact bodyPost_ret (results_cell_row rfl _ _ w.heap.size 24 (wordV (ofN n)) (0, 0) _ rfl (Holds_.new w 24 _) Tryd.underlying24 rfl (by rw [row_size]; exact info24)) rfl ⟨rfl, (Below.refl _ _).alloc (Nat.le_refl _) _⟩

set_option maxRecDepth 100000 in
theorem ref_of (n : Nat) (hn : n ≤ 1000000) (w : World) : Calls Tryd.prog 12 #[.int .i64 n] w fun e W' => e = .returned (.agg (wordV (ofN n))) ∧ Below w.heap.size w W' := by
  have e3 : IntKind.u64.wrap (n : Int) = (n : Int) := by rw [IntKind.wrap_u64]; omega
  have e4 : ¬ (n : Int) < 0 := by omega
  go_enter Tryd.func12, Tryd.ntmps12
  go_wp2_with fail
  exact bodyPost_ret (results_cell_row rfl _ _ w.heap.size 24 (wordV (ofN n)) (0, 0) _ rfl ((Holds_.new w 24 (wordV (ofN n))).alloc _) Tryd.underlying24 rfl (by rw [row_size]; exact info24)) rfl ⟨rfl, ((Below.refl _ _).alloc (Nat.le_refl _) _).alloc (by simp) _⟩
end Go.Proofs.YtkgbecgdappjoaaDoor
