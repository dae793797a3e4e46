/- The document's Mul, Cmp, Of, by their walks. -/
import Derived.Test.YtkgbecgdappjoaaDoorNd
namespace Go.Proofs.YtkgbecgdappjoaaDoor
open Go.RowKit Go.Shelf
set_option linter.unusedVariables false
set_option linter.unusedSimpArgs false

theorem calls_abs' {P : Program} {f : FuncId} {args : Array Value} {w : World} {Q : Ending → World → Prop} (R : World → Prop) (h0 : R w) (h : ∀ W, R W → Calls P f args W Q) : Calls P f args w Q := h w h0
/-! sums of products -/
def vsum (f : Nat → Nat) : Nat → Nat
  | 0 => 0
  | n + 1 => vsum f n + f n * 256 ^ n
theorem vsum_zero (n : Nat) : vsum (fun _ => 0) n = 0 := by
  induction n with
  | zero => rfl
  | succ n ih => rw [vsum, ih]; simp
theorem vsum_high (f : Nat → Nat) (m v n : Nat) (h : n ≤ m) : vsum (fput f m v) n = vsum f n := by
  induction n with
  | zero => rfl
  | succ n ih => rw [vsum, vsum, ih (by omega), fput_other _ _ _ _ (by omega)]
theorem vsum_put (f : Nat → Nat) (m t n : Nat) (h : m < n) : vsum (fput f m (f m + t)) n = vsum f n + t * 256 ^ m := by
  induction n with
  | zero => omega
  | succ n ih =>
    rw [vsum, vsum]
    by_cases e : m = n
    · subst e
      rw [vsum_high _ _ _ _ (Nat.le_refl _), fput_same, Nat.add_mul]
      omega
    · rw [ih (by omega), fput_other _ _ _ _ (fun h => e h.symm)]
      omega
def mulR (x y : Nat → Nat) (i : Nat) : Nat → Nat
  | 0 => 0
  | k + 1 => mulR x y i k + x i * y k * 256 ^ (i + k)
def mulT (x y : Nat → Nat) : Nat → Nat
  | 0 => 0
  | i + 1 => mulT x y i + mulR x y i (32 - i)
/-- What a product's digits are, before they are carried. -/
def IsMul (x y : Nat → Nat) (z : Nat → Nat) : Prop := vsum z 32 = mulT x y 32 ∧ ∀ m, m < 32 → z m ≤ 2080800
theorem dig_mul {a b : Nat} (ha : a < 256) (hb : b < 256) : a * b ≤ 65025 := Nat.mul_le_mul (show a ≤ 255 by omega) (show b ≤ 255 by omega)

set_option maxRecDepth 100000 in
set_option maxHeartbeats 1000000 in
theorem mul_any (a b : Nat → Nat) (ha : ∀ i, i < 4 → a i < 2 ^ 64) (hb : ∀ i, i < 4 → b i < 2 ^ 64) (N : Nat → Nat) (hN : ∀ z, IsMul (digF a) (digF b) z → ∀ j, j < 4 → fdW (carF z) j = N j) (w : World) :
    Calls Tryd.prog 35 #[.agg (wordV a), .agg (wordV b)] w fun e W' => e = .returned (.agg (wordV N)) ∧ Below w.heap.size w W' := by
  have hA0 := ((Holds_.new w 24 (wordV a)).alloc (.cells (wordV b) 24)).alloc (.cells (wordV (fun _ => 0)) 24)
  have hC0 := (Holds_.new (w.alloc (.cells (wordV a) 24)) 24 (wordV b)).alloc (.cells (wordV (fun _ => 0)) 24)
  have hR0 := Holds_.new ((w.alloc (.cells (wordV a) 24)).alloc (.cells (wordV b) 24)) 24 (wordV (fun _ => 0))
  simp only [World.size_alloc] at hC0 hR0
  have hB0 : Below w.heap.size w (((w.alloc (.cells (wordV a) 24)).alloc (.cells (wordV b) 24)).alloc (.cells (wordV (fun _ => 0)) 24)) := (((Below.refl _ _).alloc (Nat.le_refl _) _).alloc (by simp) _).alloc (by simp; omega) _
  have hs0 : (((w.alloc (.cells (wordV a) 24)).alloc (.cells (wordV b) 24)).alloc (.cells (wordV (fun _ => 0)) 24)).heap.size = w.heap.size + 3 := by simp
  go_enter Tryd.func35, Tryd.ntmps35
  go_wp2_with ((with_reducible show wpList _ _ _ (⟨some 10, _, _, _, _, _⟩ :: _) _ _); refine wpList_loadRow rfl 24 _ rfl w.heap.size rfl 24 _ _ hA0 Tryd.underlying24 rfl (by rw [row_size]; exact info24) ?_)
  refine calls_abs' (fun W => Holds_ W (w.heap.size + 1) 24 (wordV b) ∧ Holds_ W (w.heap.size + 1 + 1) 24 (wordV (fun _ => 0)) ∧ Below w.heap.size w W ∧ W.heap.size = w.heap.size + 3) ⟨hC0, hR0, hB0, hs0⟩ ?_
  clear hA0 hC0 hR0 hB0 hs0
  rintro w0 ⟨hC, hR, hB0, hs0⟩
  refine (digits_any a ha _).mono ?_
  rintro e w1 ⟨xv, rfl, hx, hb1⟩
  obtain ⟨gx, cx, rfl, hgx1, hgx2, _, _⟩ := Sl.form hx (by omega)
  rw [hs0] at hx hb1 hgx1
  have hC := hC.below hb1 (by omega)
  have hs1 := hb1.size
  go_wp2_with ((with_reducible show wpList _ _ _ (⟨some 12, _, _, _, _, _⟩ :: _) _ _); refine wpList_loadRow rfl 24 _ rfl (w.heap.size + 1) rfl 24 _ _ hC Tryd.underlying24 rfl (by rw [row_size]; exact info24) ?_)
  refine (digits_any b hb _).mono ?_
  rintro e w2 ⟨yv, rfl, hy, hb2⟩
  obtain ⟨gy, cy, rfl, hgy1, hgy2, _, _⟩ := Sl.form hy (by omega)
  have hx := hx.later hb2
  have hb3 : Below (w.heap.size + 3) w0 w2 := hb1.trans (hb2.mono (by omega))
  have hy := Bi.lower (b := w.heap.size + 3) hy (by omega)
  have hmk : ∀ W : World, (Instr.makeSlice 36 (.int .i64 32) (.int .i64 32)).run Tryd.prog W = .ok (.slice (some ⟨W.heap.size, 0, none⟩) 32 32) (W.alloc (.cells (rl 32 (fun _ => 0)).toArray 3)) := run_ints 32 (by decide)
  have hs2 := hb3.size
  have hgx3 := (Sl.lt hx gx rfl).2
  clear hC hb1 hb2 hgx2 hgy1
  have hZ := Bi.zeros 32 (by decide) w2
  have hx := hx.alloc (.cells (rl 32 (fun _ => 0)).toArray 3)
  have hy := hy.alloc (.cells (rl 32 (fun _ => 0)).toArray 3)
  have hB := hb3.alloc (by omega) (.cells (rl 32 (fun _ => 0)).toArray 3)
  go_wp2_with fail
  clear hmk
  have hxd : ∀ i, i < 32 → digF a i < 256 := fun i _ => Nat.mod_lt _ (by omega)
  have hyd : ∀ i, i < 32 → digF b i < 256 := fun i _ => Nat.mod_lt _ (by omega)
  have hv0 : vsum (fun _ => 0) 32 = mulT (digF a) (digF b) 0 := vsum_zero 32
  have hMT : ∀ i, mulT (digF a) (digF b) (i + 1) = mulT (digF a) (digF b) i + mulR (digF a) (digF b) i (32 - i) := fun _ => rfl
  have hMR : ∀ i k, mulR (digF a) (digF b) i (k + 1) = mulR (digF a) (digF b) i k + digF a i * digF b k * 256 ^ (i + k) := fun _ _ => rfl
  have hM0 : ∀ i, mulR (digF a) (digF b) i 0 = 0 := fun _ => rfl
  generalize digF a = xf at *
  generalize digF b = yf at *
  refine wp_abs (fun W => (∃ z, Bi W w2.heap.size (.slice (some ⟨w2.heap.size, 0, none⟩) 32 32) 32 z ∧ vsum z 32 = mulT xf yf 0 ∧ ∀ m, m < 32 → z m ≤ 0 * 65025) ∧ Bi W (w.heap.size + 3) (.slice (some ⟨gx, 0, none⟩) 32 cx) 32 xf ∧ Bi W (w.heap.size + 3) (.slice (some ⟨gy, 0, none⟩) 32 cy) 32 yf ∧ Below (w.heap.size + 3) w0 W) ⟨⟨_, hZ, hv0, fun m _ => by omega⟩, hx, hy, hB⟩ ?_
  clear hZ hx hy hB hb3 hv0
  rintro W ⟨hZ, hx, hy, hB⟩
  generalize hgO : w2.heap.size = gO at *
  go_loopw [8] (fun iv wr => ∃ i : Nat, i ≤ 32 ∧ iv = .int .i64 i ∧ (∃ z, Bi wr gO (.slice (some ⟨gO, 0, none⟩) 32 32) 32 z ∧ vsum z 32 = mulT xf yf i ∧ ∀ m, m < 32 → z m ≤ i * 65025) ∧ Bi wr (w.heap.size + 3) (.slice (some ⟨gx, 0, none⟩) 32 cx) 32 xf ∧ Bi wr (w.heap.size + 3) (.slice (some ⟨gy, 0, none⟩) 32 cy) 32 yf ∧ Below (w.heap.size + 3) w0 wr) (fun iv _ => 32 - (intOf iv).toNat)
  case atStart => exact ⟨0, by omega, rfl, hZ, hx, hy, hB⟩
  case round =>
    clear hZ hx hy hB
    obtain ⟨i, hi, rfl, ⟨z, hZ, hv, hzb⟩, hx, hy, hB⟩ := hrel
    by_cases hlt : i < 32
    · have j1 : (i : Int) < 32 := by omega
      have hMT := hMT i
      have hMR := hMR i
      have hM0 := hM0 i
      have hst : ∃ z, Bi wr gO (.slice (some ⟨gO, 0, none⟩) 32 32) 32 z ∧ vsum z 32 = mulT xf yf i + mulR xf yf i 0 ∧ ∀ m, m < 32 → z m ≤ i * 65025 + (if m < i + 0 then 65025 else 0) := ⟨z, hZ, by rw [hM0, hv]; rfl, fun m hm => Nat.le_trans (hzb m hm) (Nat.le_add_right _ _)⟩
      clear hZ hv hzb z
      go_wp2_with fail
      go_loopw [9] (fun kv wr => ∃ k : Nat, i + k ≤ 32 ∧ kv = .int .i64 k ∧ (∃ z, Bi wr gO (.slice (some ⟨gO, 0, none⟩) 32 32) 32 z ∧ vsum z 32 = mulT xf yf i + mulR xf yf i k ∧ ∀ m, m < 32 → z m ≤ i * 65025 + (if m < i + k then 65025 else 0)) ∧ Bi wr (w.heap.size + 3) (.slice (some ⟨gx, 0, none⟩) 32 cx) 32 xf ∧ Bi wr (w.heap.size + 3) (.slice (some ⟨gy, 0, none⟩) 32 cy) 32 yf ∧ Below (w.heap.size + 3) w0 wr) (fun kv _ => 32 - (intOf kv).toNat)
      case atStart => exact ⟨0, by omega, rfl, hst, hx, hy, hB⟩
      case round =>
        clear hst hx hy hB
        obtain ⟨k, hk, rfl, ⟨z, hZ, hv, hzb⟩, hx, hy, hB⟩ := hrel
        obtain ⟨m, hm⟩ : ∃ m, i + k = m := ⟨_, rfl⟩
        have hMR := hMR k
        rw [hm] at hMR hk hzb
        have hkl : (k : Int) ≤ 32 := by omega
        have k1 : (i : Int) + (k : Int) = (m : Int) := by omega
        by_cases hlt2 : m < 32
        · have j2 : (m : Int) < 32 := by omega
          have j3 : (k : Int) < 32 := by omega
          have c1 := hZ.cell m hlt2
          have c2 := hx.cell i hlt
          have c3 := hy.cell k (by omega)
          have f1 := hZ.free m hlt2
          have hd := dig_mul (hxd i hlt) (hyd k (by omega))
          have hzm := hzb m hlt2
          rw [if_neg (by omega)] at hzm
          obtain ⟨p, hp⟩ : ∃ p, xf i * yf k = p := ⟨_, rfl⟩
          rw [hp] at hd hMR
          have hZn : ∃ z', Bi (wr.setCell ⟨gO, m, none⟩ (.int .i64 ((z m + p : Nat) : Int))) gO (.slice (some ⟨gO, 0, none⟩) 32 32) 32 z' ∧ vsum z' 32 = mulT xf yf i + mulR xf yf i (k + 1) ∧ ∀ m', m' < 32 → z' m' ≤ i * 65025 + (if m' < i + (k + 1) then 65025 else 0) := by
            refine ⟨_, hZ.put m _, by rw [vsum_put _ _ _ _ hlt2, hv, hMR]; omega, fun m' hm' => ?_⟩
            by_cases e : m' = m
            · rw [e, fput_same, if_pos (by omega)]
              omega
            · rw [fput_other _ _ _ _ e]
              refine Nat.le_trans (hzb m' hm') ?_
              by_cases h2 : m' < m
              · rw [if_pos h2, if_pos (by omega)]; exact Nat.le_refl _
              · rw [if_neg h2]; omega
          have hxn : Bi (wr.setCell ⟨gO, m, none⟩ (.int .i64 ((z m + p : Nat) : Int))) (w.heap.size + 3) (.slice (some ⟨gx, 0, none⟩) 32 cx) 32 xf := Sl.far hx (by simp [Value.ownBlock]; omega) _
          have hyn : Bi (wr.setCell ⟨gO, m, none⟩ (.int .i64 ((z m + p : Nat) : Int))) (w.heap.size + 3) (.slice (some ⟨gy, 0, none⟩) 32 cy) 32 yf := Sl.far hy (by simp [Value.ownBlock]; omega) _
          have hBn := hB.setCell (p := ⟨gO, m, none⟩) (show w.heap.size + 3 ≤ gO by omega) (.int .i64 ((z m + p : Nat) : Int))
          generalize z m = q at *
          generalize xf i = q1 at *
          generalize yf k = q2 at *
          obtain ⟨s, hs⟩ : ∃ s, q + p = s := ⟨_, rfl⟩
          rw [hs] at hZn hxn hyn hBn
          have hil : i * 65025 ≤ 2080800 := by omega
          have k2 : IntKind.i64.wrap ((i : Int) + (k : Int)) = (m : Int) := (IntWalk.i64_in _ (by omega)).trans (by omega)
          have k5 : IntKind.i64.wrap (m : Int) = (m : Int) := IntWalk.i64_in _ (by omega)
          have k3 : IntKind.i64.wrap ((q1 : Int) * (q2 : Int)) = (p : Int) := by rw [← Int.natCast_mul, hp]; exact IntWalk.i64_in _ (by omega)
          have k4 : IntKind.i64.wrap ((q : Int) + (p : Int)) = (s : Int) := (IntWalk.i64_in _ (by omega)).trans (by omega)
          clear hZ hv hzb hx hy hB hMR hp hs hzm hd hil
          go_wp2_with fail
          refine wp_region_still_tail 21 (by kernel_rfl) (by kernel_rfl) ?_
          simp only [List.take_succ_cons, List.take_zero, List.drop_succ_cons, List.drop_zero]
          repeat still_step
          refine wpStill_nil ?_
          clear k1 k2 k3 k4 k5 c2 c3
          go_wp2_with fail
          go_roundw
          case rel => exact ⟨k + 1, by omega, by go_num, hZn.imp (fun f h => ⟨h.1.drew, h.2⟩), hxn.drew, hyn.drew, hBn.drew⟩
          case measure => simp [intOf]; omega
        · have hk2 : k = 32 - i := by omega
          have hzb2 : ∀ m', m' < 32 → z m' ≤ (i + 1) * 65025 := fun m' hm' => by
            refine Nat.le_trans (hzb m' hm') ?_
            split <;> omega
          rw [hk2, ← hMT] at hv
          have j2 : ¬ (m : Int) < 32 := by omega
          have hzs := (⟨z, hZ, hv, hzb2⟩ : ∃ z, Bi wr gO (.slice (some ⟨gO, 0, none⟩) 32 32) 32 z ∧ vsum z 32 = mulT xf yf (i + 1) ∧ ∀ m, m < 32 → z m ≤ (i + 1) * 65025)
          clear hk2 hMR hzb hMT hM0 hv hzb2 hZ hm
          go_wp2_with fail
          go_roundw
          case rel => exact ⟨i + 1, by omega, by go_num, hzs, hx, hy, hB⟩
          case measure => simp [intOf]; omega
    · obtain rfl : i = 32 := by omega
      have hNz := hN z ⟨hv, fun m hm => hzb m hm⟩
      have hR := hR.below hB (by omega)
      have hwB := hB0.trans (hB.mono (by omega))
      have hsB := hB.size
      go_wp2_with fail
      refine (carried_any gO gO 32 z (fun m hm => Nat.le_trans (hzb m hm) (by decide)) _ hZ).mono ?_
      rintro e w4 ⟨v4, rfl, h4, hb4⟩
      obtain ⟨g4, c4, rfl, _, _, _, _⟩ := Sl.form h4 (by omega)
      go_wp2_with fail
      have hwN : wordV (fdW (carF z)) = wordV N := word_congr hNz
      have hfd : Calls Tryd.prog 40 #[.slice (some ⟨g4, 0, none⟩) 32 c4] w4 fun e W' => e = .returned (.agg (wordV N)) ∧ Below w4.heap.size w4 W' :=
        (fromDigits_any _ g4 c4 (carF z) (fun m hm => Nat.mod_lt _ (by omega)) _ h4).mono fun e W' h => ⟨h.1.trans (by rw [hwN]), h.2⟩
      refine hfd.mono ?_
      rintro e w5 ⟨rfl, hb5⟩
      have hb45 := hb4.trans (hb5.mono hb4.size)
      have hR5 := hR.below hb45 hR.lt
      have hB5 := hwB.trans (hb45.mono (by omega))
      go_wp2_with ((with_reducible show wpList _ _ _ (⟨none, _, _, _, _, _⟩ :: _) _ _); refine wpList_storeRow rfl 24 _ _ rfl (w.heap.size + 1 + 1) _ rfl rfl 24 _ hR5 (by rw [row_size]; exact info24) (by simp [row_size]) (row_one _ _ _) ?_)
      have hR6 := hR5.putRow (wordV N)
      exact bodyPost_ret (results_cell_row rfl _ _ (w.heap.size + 1 + 1) 24 _ (0, 0) _ rfl hR6 Tryd.underlying24 rfl (by rw [row_size]; exact info24)) rfl ⟨rfl, below_putRow hB5 (by omega) _⟩
end Go.Proofs.YtkgbecgdappjoaaDoor
