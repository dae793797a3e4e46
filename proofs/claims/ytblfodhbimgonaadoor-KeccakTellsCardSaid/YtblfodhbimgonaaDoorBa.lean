/- Bits as numbers in slices; the document's pi, by its walk. -/
import Derived.Test.YtblfodhbimgonaaDoorWz
namespace Go.Proofs.YtblfodhbimgonaaDoor
open Go.RowKit Go.Shelf
set_option linter.unusedVariables false
set_option linter.unusedSimpArgs false

/-- So many numbers, one behind the other. -/
def rl (n : Nat) (f : Nat → Nat) : List Value := (List.range n).map fun i => .int .i64 ((f i : Nat) : Int)
theorem rl_length (n : Nat) (f : Nat → Nat) : (rl n f).length = n := by simp [rl]
theorem rl_get (n : Nat) (f : Nat → Nat) (i : Nat) (hi : i < n) : (rl n f)[i]? = some (.int .i64 ((f i : Nat) : Int)) := by simp [rl, hi]
theorem rl_set (n : Nat) (f : Nat → Nat) (i v : Nat) : (rl n f).set i (.int .i64 ((v : Nat) : Int)) = rl n (Kec.upd f i v) := by
  apply List.ext_getElem?
  intro j
  by_cases hj : j < n
  · rw [List.getElem?_set, rl_get _ _ _ hj, rl_get _ _ _ hj, rl_length]
    by_cases h : i = j
    · subst h; simp [hj, Kec.upd]
    · rw [if_neg h, Kec.upd_other _ _ _ _ (fun e => h e.symm)]
  · rw [List.getElem?_eq_none (by rw [List.length_set, rl_length]; omega), List.getElem?_eq_none (by rw [rl_length]; omega)]
theorem rl_succ (n : Nat) (f : Nat → Nat) : rl (n + 1) f = rl n f ++ [.int .i64 ((f n : Nat) : Int)] := by simp [rl, List.range_succ]
theorem rl_congr {n : Nat} {f g : Nat → Nat} (h : ∀ i, i < n → f i = g i) : rl n f = rl n g := by
  unfold rl
  apply List.map_congr_left
  intro i hi
  rw [h i (by simpa using hi)]

/-- A slice of the call's own that holds so many numbers. -/
def Bi (w : World) (base : Nat) (v : Value) (n : Nat) (f : Nat → Nat) : Prop := Sl w base 3 1 v n (rl n f)
section
variable {w w' : World} {base n g c : Nat} {v : Value} {f : Nat → Nat}
theorem Bi.cell (h : Bi w base (.slice (some ⟨g, 0, none⟩) n c) n f) (i : Nat) (hi : i < n) : w.cell? ⟨g, i, none⟩ = some (.int .i64 ((f i : Nat) : Int)) := by
  rw [Sl.cell h i (by omega), rl_get _ _ _ hi]
theorem Bi.free (h : Bi w base (.slice (some ⟨g, 0, none⟩) n c) n f) (i : Nat) (hi : i < n) : w.frozen? ⟨g, i, none⟩ = false := Sl.free h i (by omega)
theorem Bi.later (h : Bi w base v n f) (hb : Below w.heap.size w w') : Bi w' base v n f := Sl.later h hb
theorem Bi.put (h : Bi w base (.slice (some ⟨g, 0, none⟩) n c) n f) (i u : Nat) : Bi (w.setCell ⟨g, i, none⟩ (.int .i64 ((u : Nat) : Int))) base (.slice (some ⟨g, 0, none⟩) n c) n (Kec.upd f i u) := by
  unfold Bi
  rw [← rl_set]
  exact Sl.put h i _
theorem Bi.congr {f' : Nat → Nat} (h : Bi w base v n f) (e : ∀ i, i < n → f i = f' i) : Bi w base v n f' := by
  unfold Bi
  rw [← rl_congr e]
  exact h
end
/-- 1600 numbers, of which those that D tells are what T tells. -/
def Bp (w : World) (base : Nat) (v : Value) (T : Nat → Nat) (D : Nat → Prop) : Prop := ∃ h, Bi w base v 1600 h ∧ ∀ i, i < 1600 → D i → h i = T i
section
variable {w w' : World} {base g c : Nat} {v : Value} {T : Nat → Nat} {D D' : Nat → Prop}
theorem Bp.later (h : Bp w base v T D) (hb : Below w.heap.size w w') : Bp w' base v T D := by
  obtain ⟨f, h1, h2⟩ := h
  exact ⟨f, h1.later hb, h2⟩
theorem Bp.drew (h : Bp w base v T D) : Bp w.drew base v T D := h
theorem Bp.mono (h : Bp w base v T D) (hd : ∀ i, i < 1600 → D' i → D i) : Bp w base v T D' := by
  obtain ⟨f, h1, h2⟩ := h
  exact ⟨f, h1, fun i hi hD => h2 i hi (hd i hi hD)⟩
theorem Bp.all (h : Bp w base v T D) (hd : ∀ i, i < 1600 → D i) : Bi w base v 1600 T := by
  obtain ⟨f, h1, h2⟩ := h
  exact h1.congr fun i hi => h2 i hi (hd i hi)
theorem Bp.free (h : Bp w base (.slice (some ⟨g, 0, none⟩) 1600 c) T D) (i : Nat) (hi : i < 1600) : w.frozen? ⟨g, i, none⟩ = false := by
  obtain ⟨f, h1, h2⟩ := h
  exact h1.free i hi
theorem Bp.got (h : Bp w base (.slice (some ⟨g, 0, none⟩) 1600 c) T D) (i : Nat) (hi : i < 1600) : ∃ u, w.cell? ⟨g, i, none⟩ = some u := by
  obtain ⟨f, h1, h2⟩ := h
  exact ⟨_, h1.cell i hi⟩
theorem Bp.put (h : Bp w base (.slice (some ⟨g, 0, none⟩) 1600 c) T D) (p : Nat) (hd : ∀ i, i < 1600 → D' i → i = p ∨ D i) :
    Bp (w.setCell ⟨g, p, none⟩ (.int .i64 ((T p : Nat) : Int))) base (.slice (some ⟨g, 0, none⟩) 1600 c) T D' := by
  obtain ⟨f, h1, h2⟩ := h
  refine ⟨Kec.upd f p (T p), h1.put p _, fun i hi hD => ?_⟩
  by_cases e : i = p
  · subst e; exact Kec.upd_same _ _ _
  · rw [Kec.upd_other _ _ _ _ e]
    exact h2 i hi ((hd i hi hD).resolve_left e)
end

theorem info3 : (Tryd.prog.info? 3).map (fun i => (i.zero, i.size, i.bytes)) = some (some (.int .i64 0), 1, 8) := by kernel_rfl
theorem madeCells_ints (n : Nat) : madeCells (Value.int .i64 0).cells n = (rl n (fun _ => 0)).toArray := by
  have hz : ∀ i, i < n → (madeCells (Value.int .i64 0).cells n)[i]? = some (.int .i64 0) := by
    intro i hi
    simp only [madeCells, Value.cells]
    rw [Array.getElem?_map]
    simp [hi, Nat.mod_one]
  apply Array.ext_getElem?
  intro i
  by_cases hi : i < n
  · rw [hz i hi, List.getElem?_toArray, rl_get _ _ _ hi]
    rfl
  · rw [Array.getElem?_eq_none (by rw [size_madeCells]; omega), Array.getElem?_eq_none (by rw [List.size_toArray, rl_length]; omega)]
theorem run_ints (n : Nat) (hn : n ≤ 2000000) (W : World) : (Instr.makeSlice 41 (.int .i64 (n : Int)) (.int .i64 (n : Int))).run Tryd.prog W = .ok (.slice (some ⟨W.heap.size, 0, none⟩) n n) (W.alloc (.cells (rl n (fun _ => 0)).toArray 3)) := by
  obtain ⟨i5, hi5, hz0, hz1, hz2⟩ := info_parts info3
  have h := run_make (P := Tryd.prog) W 41 3 i5 _ Tryd.underlying41 hi5 hz0 .i64 .i64 n n (by omega) (by omega) (by rw [hz2]; omega) (by omega)
  rw [hz1, Nat.mul_one] at h
  simp only [Int.toNat_natCast] at h
  rw [h, madeCells_ints]
theorem run_ints1600 (W : World) : (Instr.makeSlice 41 (.int .i64 1600) (.int .i64 1600)).run Tryd.prog W = .ok (.slice (some ⟨W.heap.size, 0, none⟩) 1600 1600) (W.alloc (.cells (rl 1600 (fun _ => 0)).toArray 3)) :=
  run_ints 1600 (by decide) W
theorem Bi.zeros (n : Nat) (hn : n ≤ 2000000) (W : World) : Bi (W.alloc (.cells (rl n (fun _ => 0)).toArray 3)) W.heap.size (.slice (some ⟨W.heap.size, 0, none⟩) n n) n (fun _ => 0) := by
  refine ⟨by rw [rl_length, Nat.mul_one], .inr ⟨W.heap.size, n, _, (0, 0), rfl, Nat.le_refl _, heap_alloc_new W _, .inr rfl, Nat.le_refl _, by unfold maxLen; omega, by rw [List.size_toArray, rl_length, Nat.mul_one], ?_⟩⟩
  exact List.take_of_length_le (by simp [rl_length])
theorem at_nat (x y z p : Nat) (hp : p = 64 * (5 * y + x) + z) (hx : x < 5) (hy : y < 5) (hz : z < 64) (w : World) :
    Calls Tryd.prog 33 #[.int .i64 (x : Int), .int .i64 (y : Int), .int .i64 (z : Int)] w fun e w' => e = .returned (.int .i64 (p : Int)) ∧ w = w' := by
  refine (at_any _ _ _ _ (by omega) (by omega) (by omega) (by omega) (by omega) (by omega)).mono ?_
  rintro e w' ⟨rfl, rfl⟩
  exact ⟨ret_int (by unfold atS; omega), rfl⟩
theorem pos_eq {i x y z : Nat} (h1 : i / 64 % 5 = x) (h2 : i / 320 = y) (h3 : i % 64 = z) : i = 64 * (5 * y + x) + z := by omega
theorem pos_x {x y z : Nat} (hx : x < 5) (hz : z < 64) : (64 * (5 * y + x) + z) / 64 % 5 = x := by omega
theorem pos_y {x y z : Nat} (hx : x < 5) (hz : z < 64) : (64 * (5 * y + x) + z) / 320 = y := by omega
theorem pos_z {x y z : Nat} (hz : z < 64) : (64 * (5 * y + x) + z) % 64 = z := by omega

/-- 'pi': whence each bit comes. -/
def piB (f : Nat → Nat) (i : Nat) : Nat := f (64 * (5 * (i / 64 % 5) + (i / 64 % 5 + 3 * (i / 320)) % 5) + i % 64)
set_option maxRecDepth 100000 in
set_option maxHeartbeats 2000000 in
theorem pi_any (b0 : Nat) (v : Value) (f : Nat → Nat) (w : World) (h : Bi w b0 v 1600 f) :
    Calls Tryd.prog 24 #[v] w fun e W' => ∃ v', e = .returned v' ∧ Bi W' w.heap.size v' 1600 (piB f) ∧ Below w.heap.size w W' := by
  obtain ⟨g, c, rfl, _, hg, hc1, hc2⟩ := Sl.form h (by omega)
  have hmk := run_ints1600
  have hZ := Bi.zeros 1600 (by decide) w
  have hB0 := (Below.refl w.heap.size w).alloc (Nat.le_refl _) (.cells (rl 1600 (fun _ => 0)).toArray 3)
  have hP : Bp (w.alloc (.cells (rl 1600 (fun _ => 0)).toArray 3)) w.heap.size (.slice (some ⟨w.heap.size, 0, none⟩) 1600 1600) (piB f) (fun i => i / 64 % 5 < 0) := ⟨_, hZ, fun i _ hi => by omega⟩
  clear hZ
  go_enter Tryd.func24, Tryd.ntmps24
  go_wp2_with fail
  generalize (w.alloc (.cells (rl 1600 (fun _ => 0)).toArray 3)) = w0 at *
  clear hmk
  go_loopw [4] (fun t wr => ∃ x : Nat, x ≤ 5 ∧ t = .int .i64 x ∧ Bp wr w.heap.size (.slice (some ⟨w.heap.size, 0, none⟩) 1600 1600) (piB f) (fun i => i / 64 % 5 < x) ∧ Below w.heap.size w wr) (fun t _ => 5 - (intOf t).toNat)
  case atStart => exact ⟨0, by omega, rfl, hP, hB0⟩
  case round =>
    clear hP hB0
    obtain ⟨x, hx, rfl, hP, hB⟩ := hrel
    by_cases hlt : x < 5
    · have j1 : (x : Int) < 5 := by omega
      go_wp2_with fail
      go_loopw [5] (fun t wr => ∃ y : Nat, y ≤ 5 ∧ t = .int .i64 y ∧ Bp wr w.heap.size (.slice (some ⟨w.heap.size, 0, none⟩) 1600 1600) (piB f) (fun i => i / 64 % 5 < x ∨ (i / 64 % 5 = x ∧ i / 320 < y)) ∧ Below w.heap.size w wr) (fun t _ => 5 - (intOf t).toNat)
      case atStart => exact ⟨0, by omega, rfl, hP.mono (fun i _ hi => by omega), hB⟩
      case round =>
        clear hP hB
        obtain ⟨y, hy, rfl, hP, hB⟩ := hrel
        by_cases hlt2 : y < 5
        · have j2 : (y : Int) < 5 := by omega
          obtain ⟨q, hq⟩ : ∃ q, (x + 3 * y) % 5 = q := ⟨_, rfl⟩
          have i1 : ((x : Int) + 3 * (y : Int)) % 5 = (q : Int) := by omega
          go_wp2_with fail
          go_loopw [6] (fun t wr => ∃ z : Nat, z ≤ 64 ∧ t = .int .i64 z ∧ Bp wr w.heap.size (.slice (some ⟨w.heap.size, 0, none⟩) 1600 1600) (piB f) (fun i => (i / 64 % 5 < x ∨ (i / 64 % 5 = x ∧ i / 320 < y)) ∨ (i / 64 % 5 = x ∧ i / 320 = y ∧ i % 64 < z)) ∧ Below w.heap.size w wr) (fun t _ => 64 - (intOf t).toNat)
          case atStart => exact ⟨0, by omega, rfl, hP.mono (fun i _ hi => by omega), hB⟩
          case round =>
            clear hP hB
            obtain ⟨z, hz, rfl, hP, hB⟩ := hrel
            by_cases hlt3 : z < 64
            · have j3 : (z : Int) < 64 := by omega
              obtain ⟨p, hp⟩ : ∃ p, p = 64 * (5 * y + x) + z := ⟨_, rfl⟩
              obtain ⟨s, hs⟩ : ∃ s, s = 64 * (5 * x + q) + z := ⟨_, rfl⟩
              have hpl : p < 1600 := by omega
              have hsl : s < 1600 := by omega
              have j4 : (p : Int) < 1600 := by omega
              have j5 : (s : Int) < 1600 := by omega
              have a1 := at_nat x y z p hp (by omega) (by omega) (by omega)
              have a2 := at_nat q x z s hs (by omega) (by omega) (by omega)
              have hT : piB f p = f s := by
                unfold piB
                rw [hp, pos_x hlt hlt3, pos_y hlt hlt3, pos_z hlt3, hq, hs]
              have hR := Bi.later h hB
              have c1 := hR.cell s hsl
              have f1 := hP.free p hpl
              obtain ⟨u1, c2⟩ := hP.got p hpl
              have hPn := hP.put (D' := fun i => (i / 64 % 5 < x ∨ (i / 64 % 5 = x ∧ i / 320 < y)) ∨ (i / 64 % 5 = x ∧ i / 320 = y ∧ i % 64 < z + 1)) p (fun i hi hD => by
                rcases hD with hD | ⟨h1, h2, h3⟩
                · exact .inr (.inl hD)
                · by_cases h4 : i % 64 = z
                  · exact .inl (by rw [hp]; exact pos_eq h1 h2 h4)
                  · exact .inr (.inr ⟨h1, h2, by omega⟩))
              have hBn := hB.setCell (p := ⟨w.heap.size, p, none⟩) (Nat.le_refl _) (.int .i64 ((f s : Nat) : Int))
              rw [hT] at hPn
              clear hP hB hR hT hq hp hs
              go_wp2_with fail
              refine (a1 _).mono ?_
              rintro e w' ⟨rfl, rfl⟩
              go_wp2_with fail
              refine (a2 _).mono ?_
              rintro e w' ⟨rfl, rfl⟩
              go_wp2_with fail
              go_roundw
              case rel => exact ⟨z + 1, by omega, by go_num, hPn, hBn⟩
              case measure => simp [intOf]; omega
            · obtain rfl : z = 64 := by omega
              go_wp2_with fail
              go_roundw
              case rel => exact ⟨y + 1, by omega, by go_num, hP.mono (fun i _ hi => by omega), hB⟩
              case measure => simp [intOf]; omega
        · obtain rfl : y = 5 := by omega
          go_wp2_with fail
          go_roundw
          case rel => exact ⟨x + 1, by omega, by go_num, hP.mono (fun i _ hi => by omega), hB⟩
          case measure => simp [intOf]; omega
    · obtain rfl : x = 5 := by omega
      go_wp2_with fail
      go_ret
      exact ⟨_, rfl, hP.all (fun i _ => by omega), hB⟩
end Go.Proofs.YtblfodhbimgonaaDoor
