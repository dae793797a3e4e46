/- The document's chi, by its walk. -/
import Derived.Test.YtblfodhbimgonaaDoorBa
namespace Go.Proofs.YtblfodhbimgonaaDoor
open Go.RowKit Go.Shelf
set_option linter.unusedVariables false
set_option linter.unusedSimpArgs false

theorem at_z (X Y Z : Int) (p : Nat) (hp : (p : Int) = 64 * (5 * Y + X % 5) + Z) (hx : 0 ≤ X) (hx2 : X ≤ 1000) (hy : 0 ≤ Y) (hy2 : Y < 5) (hz : 0 ≤ Z) (hz2 : Z < 64) (w : World) :
    Calls Tryd.prog 33 #[.int .i64 X, .int .i64 Y, .int .i64 Z] w fun e w' => e = .returned (.int .i64 (p : Int)) ∧ w = w' := by
  refine (at_any _ _ _ _ (by omega) (by omega) (by omega) (by omega) (by omega) (by omega)).mono ?_
  rintro e w' ⟨rfl, rfl⟩
  exact ⟨ret_int (by unfold atS; omega), rfl⟩
/-- 'chi', of bits. -/
def chiB (f : Nat → Nat) (i : Nat) : Nat := (f i + (f (64 * (5 * (i / 320) + (i / 64 % 5 + 1) % 5) + i % 64) + 1) % 2 * f (64 * (5 * (i / 320) + (i / 64 % 5 + 2) % 5) + i % 64)) % 2
set_option maxRecDepth 100000 in
set_option maxHeartbeats 1000000 in
theorem rchi_any (b0 : Nat) (v : Value) (f : Nat → Nat) (hf : ∀ i, i < 1600 → f i < 2) (w : World) (h : Bi w b0 v 1600 f) :
    Calls Tryd.prog 23 #[v] w fun e W' => ∃ v', e = .returned v' ∧ Bi W' w.heap.size v' 1600 (chiB f) ∧ Below w.heap.size w W' := by
  obtain ⟨g, c, rfl, _, hg, hc1, hc2⟩ := Sl.form h (by omega)
  have hmk := run_ints1600
  have hZ := Bi.zeros 1600 (by decide) w
  have hB0 := (Below.refl w.heap.size w).alloc (Nat.le_refl _) (.cells (rl 1600 (fun _ => 0)).toArray 3)
  have hP : Bp (w.alloc (.cells (rl 1600 (fun _ => 0)).toArray 3)) w.heap.size (.slice (some ⟨w.heap.size, 0, none⟩) 1600 1600) (chiB f) (fun i => i / 64 % 5 < 0) := ⟨_, hZ, fun i _ hi => by omega⟩
  clear hZ
  go_enter Tryd.func23, Tryd.ntmps23
  go_wp2_with fail
  generalize (w.alloc (.cells (rl 1600 (fun _ => 0)).toArray 3)) = w0 at *
  clear hmk
  go_loopw [4] (fun t wr => ∃ x : Nat, x ≤ 5 ∧ t = .int .i64 x ∧ Bp wr w.heap.size (.slice (some ⟨w.heap.size, 0, none⟩) 1600 1600) (chiB f) (fun i => i / 64 % 5 < x) ∧ Below w.heap.size w wr) (fun t _ => 5 - (intOf t).toNat)
  case atStart => exact ⟨0, by omega, rfl, hP, hB0⟩
  case round =>
    clear hP hB0
    obtain ⟨x, hx, rfl, hP, hB⟩ := hrel
    by_cases hlt : x < 5
    · have j1 : (x : Int) < 5 := by omega
      go_wp2_with fail
      go_loopw [5] (fun t wr => ∃ y : Nat, y ≤ 5 ∧ t = .int .i64 y ∧ Bp wr w.heap.size (.slice (some ⟨w.heap.size, 0, none⟩) 1600 1600) (chiB f) (fun i => i / 64 % 5 < x ∨ (i / 64 % 5 = x ∧ i / 320 < y)) ∧ Below w.heap.size w wr) (fun t _ => 5 - (intOf t).toNat)
      case atStart => exact ⟨0, by omega, rfl, hP.mono (fun i _ hi => by omega), hB⟩
      case round =>
        clear hP hB
        obtain ⟨y, hy, rfl, hP, hB⟩ := hrel
        by_cases hlt2 : y < 5
        · have j2 : (y : Int) < 5 := by omega
          go_wp2_with fail
          go_loopw [6] (fun t wr => ∃ z : Nat, z ≤ 64 ∧ t = .int .i64 z ∧ Bp wr w.heap.size (.slice (some ⟨w.heap.size, 0, none⟩) 1600 1600) (chiB f) (fun i => (i / 64 % 5 < x ∨ (i / 64 % 5 = x ∧ i / 320 < y)) ∨ (i / 64 % 5 = x ∧ i / 320 = y ∧ i % 64 < z)) ∧ Below w.heap.size w wr) (fun t _ => 64 - (intOf t).toNat)
          case atStart => exact ⟨0, by omega, rfl, hP.mono (fun i _ hi => by omega), hB⟩
          case round =>
            clear hP hB
            obtain ⟨z, hz, rfl, hP, hB⟩ := hrel
            by_cases hlt3 : z < 64
            · have j3 : (z : Int) < 64 := by omega
              obtain ⟨p, hp⟩ : ∃ p, p = 64 * (5 * y + x) + z := ⟨_, rfl⟩
              obtain ⟨s, hs⟩ : ∃ s, s = 64 * (5 * y + (x + 1) % 5) + z := ⟨_, rfl⟩
              obtain ⟨r, hr⟩ : ∃ r, r = 64 * (5 * y + (x + 2) % 5) + z := ⟨_, rfl⟩
              have hpl : p < 1600 := by omega
              have hsl : s < 1600 := by omega
              have hrl : r < 1600 := by omega
              have j4 : (p : Int) < 1600 := by omega
              have j5 : (s : Int) < 1600 := by omega
              have j6 : (r : Int) < 1600 := by omega
              have a1 := at_nat x y z p hp hlt hlt2 hlt3
              obtain ⟨x1, hx1⟩ : ∃ x1, x + 1 = x1 := ⟨_, rfl⟩
              obtain ⟨x2, hx2⟩ : ∃ x2, x + 2 = x2 := ⟨_, rfl⟩
              have w1 : IntKind.i64.wrap ((x : Int) + 1) = (x1 : Int) := (IntWalk.i64_in _ (by omega)).trans (by omega)
              have w2 : IntKind.i64.wrap ((x : Int) + 2) = (x2 : Int) := (IntWalk.i64_in _ (by omega)).trans (by omega)
              have a2 := at_z (x1 : Int) y z s (by omega) (by omega) (by omega) (by omega) (by omega) (by omega) (by omega)
              have a3 := at_z (x2 : Int) y z r (by omega) (by omega) (by omega) (by omega) (by omega) (by omega) (by omega)
              have hT : chiB f p = (f p + (f s + 1) % 2 * f r) % 2 := by
                unfold chiB
                have e1 : p / 64 % 5 = x := by rw [hp]; exact pos_x hlt hlt3
                have e2 : p / 320 = y := by rw [hp]; exact pos_y hlt hlt3
                have e3 : p % 64 = z := by rw [hp]; exact pos_z hlt3
                rw [e1, e2, e3, ← hs, ← hr]
              have hR := Bi.later h hB
              have c0 := hR.cell p hpl
              have c1 := hR.cell s hsl
              have c2 := hR.cell r hrl
              have f1 := hP.free p hpl
              obtain ⟨u1, c3⟩ := hP.got p hpl
              have hPn := hP.put (D' := fun i => (i / 64 % 5 < x ∨ (i / 64 % 5 = x ∧ i / 320 < y)) ∨ (i / 64 % 5 = x ∧ i / 320 = y ∧ i % 64 < z + 1)) p (fun i hi hD => by
                rcases hD with hD | ⟨h1, h2, h3⟩
                · exact .inr (.inl hD)
                · by_cases h4 : i % 64 = z
                  · exact .inl (by rw [hp]; exact pos_eq h1 h2 h4)
                  · exact .inr (.inr ⟨h1, h2, by omega⟩))
              have hBn := hB.setCell (p := ⟨w.heap.size, p, none⟩) (Nat.le_refl _) (.int .i64 ((chiB f p : Nat) : Int))
              have b0 := hf p hpl
              have b1 := hf s hsl
              have b2 := hf r hrl
              generalize chiB f p = t at *
              generalize f p = q0 at *
              generalize f s = q1 at *
              generalize f r = q2 at *
              obtain ⟨m, hm⟩ : ∃ m, (q1 + 1) % 2 = m := ⟨_, rfl⟩
              obtain ⟨o, ho⟩ : ∃ o, m * q2 = o := ⟨_, rfl⟩
              have hol : o < 2 := by
                rw [← ho]
                have : m < 2 := by omega
                rcases (by omega : m = 0 ∨ m = 1) with rfl | rfl <;> omega
              rw [hm, ho] at hT
              obtain ⟨q1', hq1⟩ : ∃ u, q1 + 1 = u := ⟨_, rfl⟩
              obtain ⟨s4, hs4⟩ : ∃ u, q0 + o = u := ⟨_, rfl⟩
              have k1 : IntKind.i64.wrap ((q1 : Int) + 1) = (q1' : Int) := (IntWalk.i64_in _ (by omega)).trans (by omega)
              have k2 : (q1' : Int).tmod 2 = (m : Int) := by rw [← hm, ← hq1]; rfl
              have k3 : IntKind.i64.wrap ((m : Int) * (q2 : Int)) = (o : Int) := by
                rw [← Int.natCast_mul, ho]
                exact IntWalk.i64_in _ (by omega)
              have k4 : IntKind.i64.wrap ((q0 : Int) + (o : Int)) = (s4 : Int) := (IntWalk.i64_in _ (by omega)).trans (by omega)
              have k5 : (s4 : Int).tmod 2 = (t : Int) := by rw [hT, ← hs4]; rfl
              clear hP hB hR hT hp hs hr hm ho hx1 hx2 hq1 hs4
              go_wp2_with fail
              refine wp_region_still_tail 34 (by kernel_rfl) (by kernel_rfl) ?_
              simp only [List.take_succ_cons, List.take_zero, List.drop_succ_cons, List.drop_zero]
              repeat still_step
              still_call (same_of (a1 _))
              repeat still_step
              still_call (same_of (a1 _))
              repeat still_step
              still_call (same_of (a2 _))
              repeat still_step
              still_call (same_of (a3 _))
              repeat still_step
              refine wpStill_nil ?_
              go_wp2_with fail
              go_roundw
              case rel => exact ⟨z + 1, by omega, by go_num, hPn.drew, hBn.drew⟩
              case measure => simp [intOf]; omega
            · obtain rfl : z = 64 := by omega
              go_wp2_with fail
              go_roundw
              case rel => exact ⟨y + 1, by omega, by go_num, hP.mono (fun i _ hi => by omega), hB⟩
              case measure => simp [intOf]; omega
        · obtain rfl : y = 5 := by omega
          go_wp2_with fail
          go_roundw
          case rel => exact ⟨x + 1, by omega, by go_num, hP.mono (fun i _ hi => by omega), hB⟩
          case measure => simp [intOf]; omega
    · obtain rfl : x = 5 := by omega
      go_wp2_with fail
      go_ret
      exact ⟨_, rfl, hP.all (fun i _ => by omega), hB⟩
end Go.Proofs.YtblfodhbimgonaaDoor
