/- The document's picked and most, by their walks. -/
import Derived.Test.YtkgbecgdappjoaaDoorNb
namespace Go.Proofs.YtkgbecgdappjoaaDoor
open Go.RowKit Go.Shelf
set_option linter.unusedVariables false
set_option linter.unusedSimpArgs false

theorem two_mul {a b : Nat} (ha : a < 2) (hb : b < 2) : a * b < 2 := by
  rcases (by omega : a = 0 ∨ a = 1) with rfl | rfl <;> omega
def pickB (e f g i : Nat) : Nat := (bF e i * bF f i + (1 - bF e i) * bF g i) % 2
theorem pickB_lt (e f g i : Nat) : pickB e f g i < 2 := Nat.mod_lt _ (by omega)
def pickN (e f g : Nat) : Nat := numTo (pickB e f g) 32
def mostB (a b c i : Nat) : Nat := (bF a i * bF b i + bF a i * bF c i + bF b i * bF c i) % 2
theorem mostB_lt (e f g i : Nat) : mostB e f g i < 2 := Nat.mod_lt _ (by omega)
def mostN (a b c : Nat) : Nat := numTo (mostB a b c) 32
set_option maxRecDepth 100000 in
set_option maxHeartbeats 4000000 in
theorem picked_any (e f g : Nat) (he : e < 4294967296) (hf : f < 4294967296) (hg : g < 4294967296) (w : World) :
    Calls Tryd.prog 33 #[.int .i64 (e : Int), .int .i64 (f : Int), .int .i64 (g : Int)] w fun e' W' => e' = .returned (.int .i64 ((pickN e f g : Nat) : Int)) ∧ Below w.heap.size w W' := by
  unfold pickN
  go_enter Tryd.func33, Tryd.ntmps33
  go_wp2_with fail
  refine (bits_any e (by omega) _).mono ?_
  rintro e' w1 ⟨xv, rfl, hx, hB1⟩
  obtain ⟨gx, cx, rfl, hgx1, hgx2, _, _⟩ := Sl.form hx (by omega)
  go_wp2_with fail
  refine (bits_any f (by omega) _).mono ?_
  rintro e' w2 ⟨yv, rfl, hy, hb⟩
  obtain ⟨gy, cy, rfl, hgy1, hgy2, _, _⟩ := Sl.form hy (by omega)
  have hx := hx.later hb
  have hB2 := hB1.trans (hb.mono hB1.size)
  have hs2 := hb.size
  clear hb
  go_wp2_with fail
  refine (bits_any g (by omega) _).mono ?_
  rintro e' w3 ⟨zv, rfl, hz, hb⟩
  obtain ⟨gz, cz, rfl, hgz1, hgz2, _, _⟩ := Sl.form hz (by omega)
  have hx := hx.later hb
  have hy := hy.later hb
  have hB3 := hB2.trans (hb.mono hB2.size)
  have hM : ∃ F, Bi w3 w.heap.size (.slice (some ⟨gx, 0, none⟩) 32 cx) 32 F ∧ ∀ k, k < 32 → F k = if k < 0 then pickB e f g k else bF e k := ⟨_, hx, fun k hk => by rw [if_neg (by omega)]⟩
  have hny : gx ≠ gy := by omega
  have hnz : gx ≠ gz := by omega
  have hy := Bi.lower hy hB1.size
  have hz := Bi.lower hz hB2.size
  clear hx hb hB1 hB2 hs2 hgy1 hgy2 hgz1 hgz2 hgx2
  go_wp2_with fail
  go_loopw [10] (fun iv wr => ∃ i : Nat, i ≤ 32 ∧ iv = .int .i64 i ∧ (∃ F, Bi wr w.heap.size (.slice (some ⟨gx, 0, none⟩) 32 cx) 32 F ∧ ∀ k, k < 32 → F k = if k < i then pickB e f g k else bF e k) ∧ Bi wr w.heap.size (.slice (some ⟨gy, 0, none⟩) 32 cy) 32 (bF f) ∧ Bi wr w.heap.size (.slice (some ⟨gz, 0, none⟩) 32 cz) 32 (bF g) ∧ Below w.heap.size w wr) (fun iv _ => 32 - (intOf iv).toNat)
  case atStart => exact ⟨0, by omega, rfl, hM, hy, hz, hB3⟩
  case round =>
    clear hM hy hz hB3
    obtain ⟨i, hi, rfl, ⟨F, hM, hF⟩, hy, hz, hB⟩ := hrel
    by_cases hlt : i < 32
    · have j1 : (i : Int) < 32 := by omega
      have c1 := hM.cell i hlt
      have c2 := hy.cell i hlt
      have c3 := hz.cell i hlt
      have f1 := hM.free i hlt
      have hFi := hF i hlt
      rw [if_neg (by omega)] at hFi
      rw [hFi] at c1
      have hT : pickB e f g i = (bF e i * bF f i + (1 - bF e i) * bF g i) % 2 := rfl
      have l1 := bF_lt e i
      have l2 := bF_lt f i
      have l3 := bF_lt g i
      have hMn : ∃ F', Bi (wr.setCell ⟨gx, i, none⟩ (.int .i64 ((pickB e f g i : Nat) : Int))) w.heap.size (.slice (some ⟨gx, 0, none⟩) 32 cx) 32 F' ∧ ∀ k, k < 32 → F' k = if k < i + 1 then pickB e f g k else bF e k := ⟨_, hM.put i _, fun k hk => by
        by_cases ek : k = i
        · rw [ek, fput_same, if_pos (by omega)]
        · rw [fput_other _ _ _ _ ek, hF k hk]
          by_cases h2 : k < i
          · rw [if_pos h2, if_pos (by omega)]
          · rw [if_neg h2, if_neg (by omega)]⟩
      have hyn : Bi (wr.setCell ⟨gx, i, none⟩ (.int .i64 ((pickB e f g i : Nat) : Int))) w.heap.size (.slice (some ⟨gy, 0, none⟩) 32 cy) 32 (bF f) := Sl.far hy (by simp [Value.ownBlock]; exact fun e => hny e.symm) _
      have hzn : Bi (wr.setCell ⟨gx, i, none⟩ (.int .i64 ((pickB e f g i : Nat) : Int))) w.heap.size (.slice (some ⟨gz, 0, none⟩) 32 cz) 32 (bF g) := Sl.far hz (by simp [Value.ownBlock]; exact fun e => hnz e.symm) _
      have hBn := hB.setCell (p := ⟨gx, i, none⟩) hgx1 (.int .i64 ((pickB e f g i : Nat) : Int))
      generalize pickB e f g i = t at *
      generalize bF e i = q1 at *
      generalize bF f i = q2 at *
      generalize bF g i = q3 at *
      obtain ⟨m1, hm1⟩ : ∃ u, q1 * q2 = u := ⟨_, rfl⟩
      obtain ⟨s1, hs1⟩ : ∃ u, 1 - q1 = u := ⟨_, rfl⟩
      obtain ⟨m2, hm2⟩ : ∃ u, s1 * q3 = u := ⟨_, rfl⟩
      obtain ⟨d, hd⟩ : ∃ u, m1 + m2 = u := ⟨_, rfl⟩
      rw [hm1, hs1, hm2, hd] at hT
      have hm1l := two_mul l1 l2
      have hm2l := two_mul (show s1 < 2 by omega) l3
      rw [hm1] at hm1l
      rw [hm2] at hm2l
      have k1 : IntKind.i64.wrap ((q1 : Int) * (q2 : Int)) = (m1 : Int) := by rw [← Int.natCast_mul, hm1]; exact IntWalk.i64_in _ (by omega)
      have k2 : IntKind.i64.wrap (1 - (q1 : Int)) = (s1 : Int) := (IntWalk.i64_in _ (by omega)).trans (by omega)
      have k3 : IntKind.i64.wrap ((s1 : Int) * (q3 : Int)) = (m2 : Int) := by rw [← Int.natCast_mul, hm2]; exact IntWalk.i64_in _ (by omega)
      have k4 : IntKind.i64.wrap ((m1 : Int) + (m2 : Int)) = (d : Int) := (IntWalk.i64_in _ (by omega)).trans (by omega)
      have k5 : (d : Int).tmod 2 = (t : Int) := by rw [hT]; rfl
      clear hm1 hs1 hm2 hd hm1l hm2l
      clear hM hy hz hB hF hFi hT
      go_wp2_with fail
      refine wp_region_still_tail 24 (by kernel_rfl) (by kernel_rfl) ?_
      simp only [List.take_succ_cons, List.take_zero, List.drop_succ_cons, List.drop_zero]
      repeat still_step
      refine wpStill_nil ?_
      clear k1 k2 k3 k4 k5
      go_wp2_with fail
      go_roundw
      case rel => exact ⟨i + 1, by omega, by go_num, hMn.imp (fun f h => ⟨h.1.drew, h.2⟩), hyn.drew, hzn.drew, hBn.drew⟩
      case measure => simp [intOf]; omega
    · obtain rfl : i = 32 := by omega
      have hM2 : Bi wr w.heap.size (.slice (some ⟨gx, 0, none⟩) 32 cx) 32 (pickB e f g) := hM.congr (fun k hk => by rw [hF k hk, if_pos hk])
      go_wp2_with fail
      refine (rnumber_any _ gx cx _ (fun k _ => pickB_lt e f g k) _ hM2).mono ?_
      rintro e' w3 ⟨rfl, hb3⟩
      go_wp2_with fail
      go_ret
      exact ⟨rfl, hB.trans (hb3.mono hB.size)⟩
set_option maxRecDepth 100000 in
set_option maxHeartbeats 4000000 in
theorem most_any (e f g : Nat) (he : e < 4294967296) (hf : f < 4294967296) (hg : g < 4294967296) (w : World) :
    Calls Tryd.prog 34 #[.int .i64 (e : Int), .int .i64 (f : Int), .int .i64 (g : Int)] w fun e' W' => e' = .returned (.int .i64 ((mostN e f g : Nat) : Int)) ∧ Below w.heap.size w W' := by
  unfold mostN
  go_enter Tryd.func34, Tryd.ntmps34
  go_wp2_with fail
  refine (bits_any e (by omega) _).mono ?_
  rintro e' w1 ⟨xv, rfl, hx, hB1⟩
  obtain ⟨gx, cx, rfl, hgx1, hgx2, _, _⟩ := Sl.form hx (by omega)
  go_wp2_with fail
  refine (bits_any f (by omega) _).mono ?_
  rintro e' w2 ⟨yv, rfl, hy, hb⟩
  obtain ⟨gy, cy, rfl, hgy1, hgy2, _, _⟩ := Sl.form hy (by omega)
  have hx := hx.later hb
  have hB2 := hB1.trans (hb.mono hB1.size)
  have hs2 := hb.size
  clear hb
  go_wp2_with fail
  refine (bits_any g (by omega) _).mono ?_
  rintro e' w3 ⟨zv, rfl, hz, hb⟩
  obtain ⟨gz, cz, rfl, hgz1, hgz2, _, _⟩ := Sl.form hz (by omega)
  have hx := hx.later hb
  have hy := hy.later hb
  have hB3 := hB2.trans (hb.mono hB2.size)
  have hM : ∃ F, Bi w3 w.heap.size (.slice (some ⟨gx, 0, none⟩) 32 cx) 32 F ∧ ∀ k, k < 32 → F k = if k < 0 then mostB e f g k else bF e k := ⟨_, hx, fun k hk => by rw [if_neg (by omega)]⟩
  have hny : gx ≠ gy := by omega
  have hnz : gx ≠ gz := by omega
  have hy := Bi.lower hy hB1.size
  have hz := Bi.lower hz hB2.size
  clear hx hb hB1 hB2 hs2 hgy1 hgy2 hgz1 hgz2 hgx2
  go_wp2_with fail
  go_loopw [10] (fun iv wr => ∃ i : Nat, i ≤ 32 ∧ iv = .int .i64 i ∧ (∃ F, Bi wr w.heap.size (.slice (some ⟨gx, 0, none⟩) 32 cx) 32 F ∧ ∀ k, k < 32 → F k = if k < i then mostB e f g k else bF e k) ∧ Bi wr w.heap.size (.slice (some ⟨gy, 0, none⟩) 32 cy) 32 (bF f) ∧ Bi wr w.heap.size (.slice (some ⟨gz, 0, none⟩) 32 cz) 32 (bF g) ∧ Below w.heap.size w wr) (fun iv _ => 32 - (intOf iv).toNat)
  case atStart => exact ⟨0, by omega, rfl, hM, hy, hz, hB3⟩
  case round =>
    clear hM hy hz hB3
    obtain ⟨i, hi, rfl, ⟨F, hM, hF⟩, hy, hz, hB⟩ := hrel
    by_cases hlt : i < 32
    · have j1 : (i : Int) < 32 := by omega
      have c1 := hM.cell i hlt
      have c2 := hy.cell i hlt
      have c3 := hz.cell i hlt
      have f1 := hM.free i hlt
      have hFi := hF i hlt
      rw [if_neg (by omega)] at hFi
      rw [hFi] at c1
      have hT : mostB e f g i = (bF e i * bF f i + bF e i * bF g i + bF f i * bF g i) % 2 := rfl
      have l1 := bF_lt e i
      have l2 := bF_lt f i
      have l3 := bF_lt g i
      have hMn : ∃ F', Bi (wr.setCell ⟨gx, i, none⟩ (.int .i64 ((mostB e f g i : Nat) : Int))) w.heap.size (.slice (some ⟨gx, 0, none⟩) 32 cx) 32 F' ∧ ∀ k, k < 32 → F' k = if k < i + 1 then mostB e f g k else bF e k := ⟨_, hM.put i _, fun k hk => by
        by_cases ek : k = i
        · rw [ek, fput_same, if_pos (by omega)]
        · rw [fput_other _ _ _ _ ek, hF k hk]
          by_cases h2 : k < i
          · rw [if_pos h2, if_pos (by omega)]
          · rw [if_neg h2, if_neg (by omega)]⟩
      have hyn : Bi (wr.setCell ⟨gx, i, none⟩ (.int .i64 ((mostB e f g i : Nat) : Int))) w.heap.size (.slice (some ⟨gy, 0, none⟩) 32 cy) 32 (bF f) := Sl.far hy (by simp [Value.ownBlock]; exact fun e => hny e.symm) _
      have hzn : Bi (wr.setCell ⟨gx, i, none⟩ (.int .i64 ((mostB e f g i : Nat) : Int))) w.heap.size (.slice (some ⟨gz, 0, none⟩) 32 cz) 32 (bF g) := Sl.far hz (by simp [Value.ownBlock]; exact fun e => hnz e.symm) _
      have hBn := hB.setCell (p := ⟨gx, i, none⟩) hgx1 (.int .i64 ((mostB e f g i : Nat) : Int))
      generalize mostB e f g i = t at *
      generalize bF e i = q1 at *
      generalize bF f i = q2 at *
      generalize bF g i = q3 at *
      obtain ⟨m1, hm1⟩ : ∃ u, q1 * q2 = u := ⟨_, rfl⟩
      obtain ⟨m2, hm2⟩ : ∃ u, q1 * q3 = u := ⟨_, rfl⟩
      obtain ⟨m3, hm3⟩ : ∃ u, q2 * q3 = u := ⟨_, rfl⟩
      obtain ⟨d, hd⟩ : ∃ u, m1 + m2 = u := ⟨_, rfl⟩
      obtain ⟨d2, hd2⟩ : ∃ u, d + m3 = u := ⟨_, rfl⟩
      rw [hm1, hm2, hm3, hd, hd2] at hT
      have hm1l := two_mul l1 l2
      have hm2l := two_mul l1 l3
      have hm3l := two_mul l2 l3
      rw [hm1] at hm1l
      rw [hm2] at hm2l
      rw [hm3] at hm3l
      have k1 : IntKind.i64.wrap ((q1 : Int) * (q2 : Int)) = (m1 : Int) := by rw [← Int.natCast_mul, hm1]; exact IntWalk.i64_in _ (by omega)
      have k2 : IntKind.i64.wrap ((q1 : Int) * (q3 : Int)) = (m2 : Int) := by rw [← Int.natCast_mul, hm2]; exact IntWalk.i64_in _ (by omega)
      have k3 : IntKind.i64.wrap ((q2 : Int) * (q3 : Int)) = (m3 : Int) := by rw [← Int.natCast_mul, hm3]; exact IntWalk.i64_in _ (by omega)
      have k4 : IntKind.i64.wrap ((m1 : Int) + (m2 : Int)) = (d : Int) := (IntWalk.i64_in _ (by omega)).trans (by omega)
      have k6 : IntKind.i64.wrap ((d : Int) + (m3 : Int)) = (d2 : Int) := (IntWalk.i64_in _ (by omega)).trans (by omega)
      have k5 : (d2 : Int).tmod 2 = (t : Int) := by rw [hT]; rfl
      clear hm1 hm2 hm3 hd hd2 hm1l hm2l hm3l
      clear hM hy hz hB hF hFi hT
      go_wp2_with fail
      refine wp_region_still_tail 33 (by kernel_rfl) (by kernel_rfl) ?_
      simp only [List.take_succ_cons, List.take_zero, List.drop_succ_cons, List.drop_zero]
      repeat still_step
      refine wpStill_nil ?_
      clear k1 k2 k3 k4 k5
      go_wp2_with fail
      go_roundw
      case rel => exact ⟨i + 1, by omega, by go_num, hMn.imp (fun f h => ⟨h.1.drew, h.2⟩), hyn.drew, hzn.drew, hBn.drew⟩
      case measure => simp [intOf]; omega
    · obtain rfl : i = 32 := by omega
      have hM2 : Bi wr w.heap.size (.slice (some ⟨gx, 0, none⟩) 32 cx) 32 (mostB e f g) := hM.congr (fun k hk => by rw [hF k hk, if_pos hk])
      go_wp2_with fail
      refine (rnumber_any _ gx cx _ (fun k _ => mostB_lt e f g k) _ hM2).mono ?_
      rintro e' w3 ⟨rfl, hb3⟩
      go_wp2_with fail
      go_ret
      exact ⟨rfl, hB.trans (hb3.mono hB.size)⟩
end Go.Proofs.YtkgbecgdappjoaaDoor
