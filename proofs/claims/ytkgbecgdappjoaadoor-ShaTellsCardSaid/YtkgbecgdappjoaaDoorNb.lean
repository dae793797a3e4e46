/- The document's bits, number, mixed, by their walks. -/
import Derived.Test.YtkgbecgdappjoaaDoorNa
namespace Go.Proofs.YtkgbecgdappjoaaDoor
open Go.RowKit Go.Shelf
set_option linter.unusedVariables false
set_option linter.unusedSimpArgs false

def bF (n k : Nat) : Nat := n / 2 ^ k % 2
theorem bF_lt (n k : Nat) : bF n k < 2 := Nat.mod_lt _ (by omega)
set_option maxRecDepth 100000 in
set_option maxHeartbeats 2000000 in
theorem bits_any (n0 : Nat) (hn0 : n0 < 4611686018427387904) (w : World) :
    Calls Tryd.prog 37 #[.int .i64 (n0 : Int)] w fun e W' => ∃ v', e = .returned v' ∧ Bi W' w.heap.size v' 32 (bF n0) ∧ Below w.heap.size w W' := by
  have hN := Bi.nil_ w w.heap.size (bF n0)
  go_enter Tryd.func37, Tryd.ntmps37
  go_wp2_with fail
  go_loopw [0, 3, 4] (fun xv ov zv wr => ∃ z : Nat, z ≤ 32 ∧ zv = .int .i64 z ∧ xv = .int .i64 ((n0 / 2 ^ z : Nat) : Int) ∧ Bi wr w.heap.size ov z (bF n0) ∧ Below w.heap.size w wr) (fun _ _ zv _ => 32 - (intOf zv).toNat)
  case atStart => exact ⟨0, by omega, rfl, by simp, hN, Below.refl _ _⟩
  case round =>
    clear hN
    obtain ⟨z, hz, rfl, rfl, hO, hB⟩ := hrel
    have hl := hB.size
    by_cases hlt2 : z < 32
    · have j2 : (z : Int) < 32 := by omega
      obtain ⟨x, hx⟩ : ∃ x, n0 / 2 ^ z = x := ⟨_, rfl⟩
      have hxl : x < 4611686018427387904 := by rw [← hx]; exact Nat.lt_of_le_of_lt (Nat.div_le_self _ _) hn0
      obtain ⟨u, hu⟩ : ∃ u, x % 2 = u := ⟨_, rfl⟩
      obtain ⟨x2, hx2⟩ : ∃ u, x / 2 = u := ⟨_, rfl⟩
      have hcu : bF n0 z = u := by unfold bF; rw [hx, hu]
      have hxn : n0 / 2 ^ (z + 1) = x2 := by rw [Nat.pow_succ, ← Nat.div_div_eq_div_mul, hx, hx2]
      rw [hx]
      have b1 : (x : Int) < 4611686018427387904 := by omega
      have i1 : (x : Int).tmod 2 = (u : Int) := by rw [← hu]; rfl
      have i2 : (x : Int) % 2 = (u : Int) := by omega
      have i3 : (x : Int).tdiv 2 = (x2 : Int) := by rw [← hx2]; rfl
      have i4 : (x : Int) / 2 = (x2 : Int) := by omega
      have b2 : (u : Int) < 2 := by omega
      have b3 : (x2 : Int) < 4611686018427387904 := by omega
      have HX := Lib.hid hxn
      clear hx hu hx2 hxn
      go_wp2_with (at_builtin; refine wpList_append_one rfl _ _ rfl w.heap.size z _ (bF n0) rfl (hO.alloc _) wr.heap.size u rfl (Holds_.new wr 3 _) hcu.symm (by omega) ?d1 ?_)
      case d1 => simp; omega
      intro v' w' hO' hb'
      have hB' : Below w.heap.size w w' := (hB.alloc hl _).trans hb'
      go_wp2_with fail
      go_roundw
      case rel => exact ⟨z + 1, by omega, by go_num, by rw [HX.out], hO', hB'⟩
      case measure => simp [intOf]; omega
    · obtain rfl : z = 32 := by omega
      go_wp2_with fail
      go_ret
      exact ⟨_, rfl, hO, hB⟩

/-! the number of bits -/
def numTo (f : Nat → Nat) : Nat → Nat
  | 0 => 0
  | k + 1 => 2 * numTo f k + f (31 - k)
theorem numTo_lt (f : Nat → Nat) (hf : ∀ i, i < 32 → f i < 2) (k : Nat) (hk : k ≤ 32) : numTo f k < 2 ^ k := by
  induction k with
  | zero => exact Nat.one_pos
  | succ k ih =>
    have h1 := ih (by omega)
    have h2 := hf (31 - k) (by omega)
    simp only [numTo, Nat.pow_succ]
    omega
set_option maxRecDepth 100000 in
set_option maxHeartbeats 1000000 in
theorem rnumber_any (b0 g c : Nat) (f : Nat → Nat) (hf : ∀ i, i < 32 → f i < 2) (w : World) (h : Bi w b0 (.slice (some ⟨g, 0, none⟩) 32 c) 32 f) :
    Calls Tryd.prog 38 #[.slice (some ⟨g, 0, none⟩) 32 c] w fun e W' => e = .returned (.int .i64 ((numTo f 32 : Nat) : Int)) ∧ Below w.heap.size w W' := by
  go_enter Tryd.func38, Tryd.ntmps38
  go_wp2_with fail
  go_loopw [3, 4] (fun nv kv wr => ∃ k : Nat, k ≤ 32 ∧ kv = .int .i64 (31 - (k : Int)) ∧ nv = .int .i64 ((numTo f k : Nat) : Int) ∧ Below w.heap.size w wr) (fun _ kv _ => (intOf kv + 1).toNat)
  case atStart => exact ⟨0, by omega, rfl, rfl, Below.refl _ _⟩
  case round =>
    obtain ⟨k, hk, rfl, rfl, hB⟩ := hrel
    by_cases hlt : k < 32
    · obtain ⟨z, hz⟩ : ∃ z, 31 - k = z := ⟨_, rfl⟩
      have hzi : (31 : Int) - (k : Int) = (z : Int) := by omega
      rw [hzi]
      have hzl : z < 32 := by omega
      have c1 := (Bi.later h hB).cell z hzl
      have hs : numTo f (k + 1) = 2 * numTo f k + f z := by rw [numTo, hz]
      have hnl := Nat.lt_of_lt_of_le (numTo_lt f hf k (by omega)) (Nat.pow_le_pow_right (show 0 < 2 by omega) (show k ≤ 32 by omega))
      have hq := hf z hzl
      generalize numTo f k = n at *
      generalize f z = q at *
      have b1 : (n : Int) < 4294967296 := by omega
      have b2 : (q : Int) < 2 := by omega
      have b3 : (z : Int) < 32 := by omega
      have b4 : (0 : Int) ≤ (z : Int) := by omega
      clear hz
      go_wp2_with fail
      go_roundw
      case rel => exact ⟨k + 1, by omega, by rw [← hzi]; first | done | go_num, by rw [hs]; go_num, hB⟩
      case measure => simp [intOf] <;> omega
    · obtain rfl : k = 32 := by omega
      go_wp2_with fail
      go_ret
      exact ⟨rfl, hB⟩

/-! turned by two numbers, and by a third one, or shifted by it -/
def mixB (n x y z : Nat) (sh : Bool) (i : Nat) : Nat := (bF n ((i + x) % 32) + bF n ((i + y) % 32) + (if sh = false ∨ i + z < 32 then bF n ((i + z) % 32) else 0)) % 2
theorem mixB_lt (n x y z : Nat) (sh : Bool) (i : Nat) : mixB n x y z sh i < 2 := Nat.mod_lt _ (by omega)
def mixN (n x y z : Nat) (sh : Bool) : Nat := numTo (mixB n x y z sh) 32
set_option maxRecDepth 100000 in
set_option maxHeartbeats 4000000 in
theorem mixed_any (n x y z : Nat) (sh : Bool) (hn : n < 4294967296) (hx : x < 32) (hy : y < 32) (hz : z < 32) (w : World) :
    Calls Tryd.prog 32 #[.int .i64 (n : Int), .int .i64 (x : Int), .int .i64 (y : Int), .int .i64 (z : Int), .bool sh] w fun e W' => e = .returned (.int .i64 ((mixN n x y z sh : Nat) : Int)) ∧ Below w.heap.size w W' := by
  unfold mixN
  go_enter Tryd.func32, Tryd.ntmps32
  go_wp2_with fail
  refine (bits_any n (by omega) _).mono ?_
  rintro e w1 ⟨bv, rfl, hb, hB1⟩
  obtain ⟨gb, cb, rfl, _, hgb, hcb, _⟩ := Sl.form hb (by omega)
  have hmk : ∀ W : World, (Instr.makeSlice 36 (.int .i64 32) (.int .i64 32)).run Tryd.prog W = .ok (.slice (some ⟨W.heap.size, 0, none⟩) 32 32) (W.alloc (.cells (rl 32 (fun _ => 0)).toArray 3)) := run_ints 32 (by decide)
  have hZ := Bi.zeros 32 (by decide) w1
  have hb0 := hb.alloc (.cells (rl 32 (fun _ => 0)).toArray 3)
  have hB0 := hB1.alloc hB1.size (.cells (rl 32 (fun _ => 0)).toArray 3)
  have hbs := hB1.size
  clear hb hB1
  go_wp2_with fail
  clear hmk
  refine wp_abs (fun W => (∃ f, Bi W w1.heap.size (.slice (some ⟨w1.heap.size, 0, none⟩) 32 32) 32 f ∧ ∀ k, k < 0 → f k = mixB n x y z sh k) ∧ Bi W w.heap.size (.slice (some ⟨gb, 0, none⟩) 32 cb) 32 (bF n) ∧ Below w.heap.size w W) ⟨⟨_, hZ, fun k hk => by omega⟩, hb0, hB0⟩ ?_
  clear hZ hb0 hB0
  rintro W ⟨hM, hb, hB⟩
  generalize hgO : w1.heap.size = gO at *
  go_loopw [13] (fun iv wr => ∃ i : Nat, i ≤ 32 ∧ iv = .int .i64 i ∧ (∃ f, Bi wr gO (.slice (some ⟨gO, 0, none⟩) 32 32) 32 f ∧ ∀ k, k < i → f k = mixB n x y z sh k) ∧ Bi wr w.heap.size (.slice (some ⟨gb, 0, none⟩) 32 cb) 32 (bF n) ∧ Below w.heap.size w wr) (fun iv _ => 32 - (intOf iv).toNat)
  case atStart => exact ⟨0, by omega, rfl, hM, hb, hB⟩
  case round =>
    clear hM hb hB
    obtain ⟨i, hi, rfl, ⟨f, hM, hf⟩, hb, hB⟩ := hrel
    by_cases hlt : i < 32
    · have j1 : (i : Int) < 32 := by omega
      obtain ⟨ix, hix⟩ : ∃ u, i + x = u := ⟨_, rfl⟩
      obtain ⟨r1, hr1⟩ : ∃ u, ix % 32 = u := ⟨_, rfl⟩
      obtain ⟨iy, hiy⟩ : ∃ u, i + y = u := ⟨_, rfl⟩
      obtain ⟨r2, hr2⟩ : ∃ u, iy % 32 = u := ⟨_, rfl⟩
      obtain ⟨iz, hiz⟩ : ∃ u, i + z = u := ⟨_, rfl⟩
      obtain ⟨r3, hr3⟩ : ∃ u, iz % 32 = u := ⟨_, rfl⟩
      have k1 : IntKind.i64.wrap ((i : Int) + (x : Int)) = (ix : Int) := (IntWalk.i64_in _ (by omega)).trans (by omega)
      have k2 : (ix : Int).tmod 32 = (r1 : Int) := by rw [← hr1]; rfl
      have k3 : IntKind.i64.wrap ((i : Int) + (y : Int)) = (iy : Int) := (IntWalk.i64_in _ (by omega)).trans (by omega)
      have k4 : (iy : Int).tmod 32 = (r2 : Int) := by rw [← hr2]; rfl
      have hr1l : r1 < 32 := by omega
      have hr2l : r2 < 32 := by omega
      have hr3l : r3 < 32 := by omega
      have j4 : (r1 : Int) < 32 := by omega
      have j5 : (r2 : Int) < 32 := by omega
      have c1 := hb.cell r1 hr1l
      have c2 := hb.cell r2 hr2l
      have c3 := hb.cell r3 hr3l
      have c4 := hM.cell i hlt
      have f1 := hM.free i hlt
      have hT : mixB n x y z sh i = (bF n r1 + bF n r2 + (if sh = false ∨ iz < 32 then bF n r3 else 0)) % 2 := by unfold mixB; rw [hix, hiy, hiz, hr1, hr2, hr3]
      have l1 := bF_lt n r1
      have l2 := bF_lt n r2
      have l3 := bF_lt n r3
      have hMn : ∃ f', Bi (wr.setCell ⟨gO, i, none⟩ (.int .i64 ((mixB n x y z sh i : Nat) : Int))) gO (.slice (some ⟨gO, 0, none⟩) 32 32) 32 f' ∧ ∀ k, k < i + 1 → f' k = mixB n x y z sh k := ⟨_, hM.put i _, fun k hk => by
        by_cases e : k = i
        · rw [e, fput_same]
        · rw [fput_other _ _ _ _ e]
          exact hf k (by omega)⟩
      have hbn : Bi (wr.setCell ⟨gO, i, none⟩ (.int .i64 ((mixB n x y z sh i : Nat) : Int))) w.heap.size (.slice (some ⟨gb, 0, none⟩) 32 cb) 32 (bF n) := Sl.far hb (by simp [Value.ownBlock]; omega) _
      have hBn := hB.setCell (p := ⟨gO, i, none⟩) hbs (.int .i64 ((mixB n x y z sh i : Nat) : Int))
      generalize mixB n x y z sh i = t at *
      generalize bF n r1 = q1 at *
      generalize bF n r2 = q2 at *
      generalize bF n r3 = q3 at *
      generalize f i = u0 at *
      obtain ⟨d, hd⟩ : ∃ d, q1 + q2 = d := ⟨_, rfl⟩
      have k5 : IntKind.i64.wrap ((q1 : Int) + (q2 : Int)) = (d : Int) := (IntWalk.i64_in _ (by omega)).trans (by omega)
      rw [hd] at hT
      clear hM hb hB hix hr1 hiy hr2 hf
      go_wp2_with fail
      refine wp_region_still (by kernel_rfl) (by kernel_rfl) ?_
      repeat still_step
      refine wpStill_nil ?_
      clear k1 k2 k3 k4 k5 c1 c2 j4 j5
      cases sh with
      | false =>
        have k7 : (i : Int) + (z : Int) = (iz : Int) := by omega
        have k8 : (iz : Int).tmod 32 = (r3 : Int) := by rw [← hr3]; rfl
        have b6 : (iz : Int) ≤ 64 := by omega
        have b7 : (r3 : Int) < 32 := by omega
        rw [if_pos (.inl rfl)] at hT
        obtain ⟨d2, hd2⟩ : ∃ d2, d + q3 = d2 := ⟨_, rfl⟩
        rw [hd2] at hT
        have k9 : (d : Int) + (q3 : Int) = (d2 : Int) := by omega
        have k10 : (d2 : Int).tmod 2 = (t : Int) := by rw [hT]; rfl
        have b8 : (d : Int) ≤ 2 := by omega
        have b9 : (q3 : Int) ≤ 1 := by omega
        have b10 : (d2 : Int) ≤ 3 := by omega
        clear hT hr3 hd2
        go_wp2_with fail
        go_roundw
        case rel => exact ⟨i + 1, by omega, by go_num, hMn.imp (fun f h => ⟨h.1.drew, h.2⟩), hbn.drew, hBn.drew⟩
        case measure => simp [intOf]; omega
      | true =>
        by_cases hz32 : iz < 32
        · have k6 : (iz : Int) < 32 := by omega
          have k7 : (i : Int) + (z : Int) = (iz : Int) := by omega
          have k8 : (iz : Int).tmod 32 = (r3 : Int) := by rw [← hr3]; rfl
          have b6 : (iz : Int) ≤ 64 := by omega
          have b7 : (r3 : Int) < 32 := by omega
          rw [if_pos (.inr hz32)] at hT
          obtain ⟨d2, hd2⟩ : ∃ d2, d + q3 = d2 := ⟨_, rfl⟩
          rw [hd2] at hT
          have k9 : (d : Int) + (q3 : Int) = (d2 : Int) := by omega
          have k10 : (d2 : Int).tmod 2 = (t : Int) := by rw [hT]; rfl
          have b8 : (d : Int) ≤ 2 := by omega
          have b9 : (q3 : Int) ≤ 1 := by omega
          have b10 : (d2 : Int) ≤ 3 := by omega
          clear hT hr3 hd2
          go_wp2_with fail
          go_roundw
          case rel => exact ⟨i + 1, by omega, by go_num, hMn.imp (fun f h => ⟨h.1.drew, h.2⟩), hbn.drew, hBn.drew⟩
          case measure => simp [intOf]; omega
        · have k6 : ¬ (iz : Int) < 32 := by omega
          have k7 : (i : Int) + (z : Int) = (iz : Int) := by omega
          have b6 : (iz : Int) ≤ 64 := by omega
          rw [if_neg (fun h => h.elim (fun e => by cases e) hz32), Nat.add_zero] at hT
          have k10 : (d : Int).tmod 2 = (t : Int) := by rw [hT]; rfl
          have b8 : (d : Int) ≤ 2 := by omega
          clear hT hr3
          go_wp2_with fail
          go_roundw
          case rel => exact ⟨i + 1, by omega, by go_num, hMn.imp (fun f h => ⟨h.1.drew, h.2⟩), hbn.drew, hBn.drew⟩
          case measure => simp [intOf]; omega
    · obtain rfl : i = 32 := by omega
      have hM2 := hM.congr (fun k hk => hf k hk)
      go_wp2_with fail
      refine (rnumber_any gO gO 32 _ (fun k _ => mixB_lt n x y z sh k) _ hM2).mono ?_
      rintro e w3 ⟨rfl, hb3⟩
      go_wp2_with fail
      go_ret
      exact ⟨rfl, hB.trans (hb3.mono hB.size)⟩
end Go.Proofs.YtkgbecgdappjoaaDoor
