/- The document's bits, by its walk. -/
import Derived.Test.YtblfodhbimgonaaDoorBd
namespace Go.Proofs.YtblfodhbimgonaaDoor
open Go.RowKit Go.Shelf
set_option linter.unusedVariables false
set_option linter.unusedSimpArgs false

/-- The bits of lanes, one behind the other. -/
def bitF (a : Nat → Nat) (k : Nat) : Nat := a (k / 64) / 2 ^ (k % 64) % 2
set_option maxRecDepth 100000 in
set_option maxHeartbeats 2000000 in
theorem bits_any (a : Nat → Nat) (ha : Kec.Ok a) (w : World) :
    Calls Tryd.prog 21 #[.agg (lanesV a)] w fun e W' => ∃ v', e = .returned v' ∧ Bi W' w.heap.size v' 1600 (bitF a) ∧ Below w.heap.size w W' := by
  have hA0 := Holds_.new w 24 (lanesV a)
  have hB0 := (Below.refl w.heap.size w).alloc (Nat.le_refl _) (.cells (lanesV a) 24)
  have hN := Bi.nil_ (w.alloc (.cells (lanesV a) 24)) (w.heap.size + 1) (bitF a)
  go_enter Tryd.func21, Tryd.ntmps21
  go_wp2_with fail
  generalize (w.alloc (.cells (lanesV a) 24)) = w0 at *
  have hlt0 := hA0.lt
  go_loopw [3, 4] (fun ov iv wr => ∃ i : Nat, i ≤ 25 ∧ iv = .int .i64 i ∧ Bi wr (w.heap.size + 1) ov (64 * i) (bitF a) ∧ Holds_ wr w.heap.size 24 (lanesV a) ∧ Below w.heap.size w wr ∧ w.heap.size + 1 ≤ wr.heap.size) (fun _ iv _ => 25 - (intOf iv).toNat)
  case atStart => exact ⟨0, by omega, rfl, hN, hA0, hB0, hlt0⟩
  case round =>
    clear hN hA0 hB0 hlt0
    obtain ⟨i, hi, rfl, hO, hA, hB, hl⟩ := hrel
    by_cases hlt : i < 25
    · have j1 : (i : Int) < 25 := by omega
      have c0 : wr.cell? ⟨w.heap.size, i, none⟩ = some (.int .u64 (a i : Nat)) := (hA.cell _).trans (row_get _ _ _ _ hlt)
      go_wp2_with fail
      clear c0
      go_loopw [3, 5, 6] (fun ov xv zv wq => ∃ z : Nat, z ≤ 64 ∧ zv = .int .i64 z ∧ xv = .int .u64 ((a i / 2 ^ z : Nat) : Int) ∧ Bi wq (w.heap.size + 1) ov (64 * i + z) (bitF a) ∧ Holds_ wq w.heap.size 24 (lanesV a) ∧ Below w.heap.size w wq ∧ w.heap.size + 1 ≤ wq.heap.size) (fun _ _ zv _ => 64 - (intOf zv).toNat)
      case atStart => exact ⟨0, by omega, rfl, by simp, hO, hA, hB, hl⟩
      case round =>
        clear hO hA hB hl
        obtain ⟨z, hz, rfl, rfl, hO, hA, hB, hl⟩ := hrel
        by_cases hlt2 : z < 64
        · have j2 : (z : Int) < 64 := by omega
          obtain ⟨x, hx⟩ : ∃ x, a i / 2 ^ z = x := ⟨_, rfl⟩
          have hxl : x < 2 ^ 64 := by rw [← hx]; exact Nat.lt_of_le_of_lt (Nat.div_le_self _ _) (ha i hlt)
          obtain ⟨u, hu⟩ : ∃ u, x % 2 = u := ⟨_, rfl⟩
          obtain ⟨x2, hx2⟩ : ∃ u, x / 2 = u := ⟨_, rfl⟩
          have hcu : bitF a (64 * i + z) = u := by
            unfold bitF
            rw [show (64 * i + z) / 64 = i by omega, show (64 * i + z) % 64 = z by omega, hx, hu]
          have hxn : a i / 2 ^ (z + 1) = x2 := by rw [Nat.pow_succ, ← Nat.div_div_eq_div_mul, hx, hx2]
          rw [hx]
          have b1 : (x : Int) < 18446744073709551616 := by omega
          have i1 : (x : Int).tmod 2 = (u : Int) := by rw [← hu]; rfl
          have i2 : (x : Int) % 2 = (u : Int) := by omega
          have i3 : (x : Int).tdiv 2 = (x2 : Int) := by rw [← hx2]; rfl
          have i4 : (x : Int) / 2 = (x2 : Int) := by omega
          have b2 : (u : Int) < 2 := by omega
          have b3 : (x2 : Int) < 18446744073709551616 := by omega
          clear hx hu hx2
          go_wp2_with (at_builtin; refine wpList_append_one rfl _ _ rfl (w.heap.size + 1) (64 * i + z) _ (bitF a) rfl (hO.alloc _) wr.heap.size u rfl (Holds_.new wr 3 _) hcu.symm (by omega) ?d1 ?_)
          case d1 => simp; omega
          intro v' w' hO' hb'
          have hb2 : Below (w.heap.size + 1) wr w' := ((Below.refl _ _).alloc hl _).trans hb'
          have hB' : Below w.heap.size w w' := hB.trans (hb2.mono (by omega))
          have hA' := hA.below hb2 (by omega)
          have hl' : w.heap.size + 1 ≤ w'.heap.size := Nat.le_trans hl hb2.size
          go_wp2_with fail
          go_roundw
          case rel => exact ⟨z + 1, by omega, by go_num, by rw [hxn], hO', hA', hB', hl'⟩
          case measure => simp [intOf]; omega
        · obtain rfl : z = 64 := by omega
          go_wp2_with fail
          go_roundw
          case rel => exact ⟨i + 1, by omega, by go_num, hO, hA, hB, hl⟩
          case measure => simp [intOf]; omega
    · obtain rfl : i = 25 := by omega
      go_wp2_with fail
      go_ret
      exact ⟨_, rfl, hO.lower (by omega), hB⟩
end Go.Proofs.YtblfodhbimgonaaDoor
