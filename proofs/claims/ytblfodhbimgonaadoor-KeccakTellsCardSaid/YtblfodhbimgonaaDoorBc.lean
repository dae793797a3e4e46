/- The document's theta, by its walk. -/
import Derived.Test.YtblfodhbimgonaaDoorBb
namespace Go.Proofs.YtblfodhbimgonaaDoor
open Go.RowKit Go.Shelf
set_option linter.unusedVariables false
set_option linter.unusedSimpArgs false

theorem Bi.alloc {w : World} {base n : Nat} {v : Value} {f : Nat → Nat} (h : Bi w base v n f) (o : Obj) : Bi (w.alloc o) base v n f := Sl.alloc h o
theorem Bi.nil_ (w : World) (base : Nat) (f : Nat → Nat) : Bi w base (.slice none 0 0) 0 f := Sl.nil_ _ _ _ _
theorem Bi.lower {w : World} {base b n : Nat} {v : Value} {f : Nat → Nat} (h : Bi w base v n f) (hb : b ≤ base) : Bi w b v n f := Sl.lower h hb
/-- One number more, behind the others. -/
theorem wpList_append_one {ops : Array Oper} {rest : List Oper} {o : Oper} {a : Act} {w : World} {Q : Exit → Act → World → Prop} (hgd : o.guard = none) (s x : Operand)
    (ho : o.op = .call { callee := .builtin .append, args := #[s, x], argTypes := #[41, 41] }) (base n : Nat) (v : Value) (f : Nat → Nat) (hs : a.eval s = v) (hown : Bi w base v n f)
    (g u : Nat) (hx : a.eval x = .slice (some ⟨g, 0, none⟩) 1 1) (hg : Holds_ w g 3 #[.int .i64 ((u : Nat) : Int)]) (hu : u = f n) (hn : n ≤ 100000) (hbase : base ≤ w.heap.size)
    (h : ∀ v' w', Bi w' base v' (n + 1) f → Below base w w' → wpList Tryd.prog ops Q rest (a.put o.dst v') w') : wpList Tryd.prog ops Q (o :: rest) a w := by
  obtain ⟨i0, hi, hz0, hz1, hz2⟩ := info_parts info3
  obtain ⟨v', w', r1, r2, r3, _⟩ := run_append_Sl (P := Tryd.prog) w base 41 o.type 3 i0 (.int .i64 0) 1 8 Tryd.underlying41 hi hz0 hz1 hz2 rfl (by decide) v n (rl n f) hown ⟨g, 0, none⟩ 1 1 [.int .i64 ((u : Nat) : Int)] rfl (one_at hg) (one_ok rfl) (by unfold maxLen; omega) (by omega) hbase
  have hb : Below base w w' := (Below.refl base w).grown r3 hbase (fun k e => (Sl.lt hown k e).1)
  have hB : Bi w' base v' (n + 1) f := by
    unfold Bi
    rw [rl_succ, ← hu]
    exact r2
  exact wpList_plain hgd fun _ hK => by
    unfold Oper.wp execOp
    simp only [ho, resolve, invoke, builtin, Sem.run_bind, Sem.run_pure, Result.andThen_ok, List.map_toArray, List.map_cons, List.map_nil, hs, hx, r1]
    exact hK _ _ (h v' w' hB hb)

/-- The sum of a column's first bits. -/
def sumF (f : Nat → Nat) (x z : Nat) : Nat → Nat
  | 0 => 0
  | y + 1 => sumF f x z y + f (64 * (5 * y + x) + z)
theorem sumF_le (f : Nat → Nat) (hf : ∀ i, i < 1600 → f i < 2) (x z y : Nat) (hx : x < 5) (hz : z < 64) (hy : y ≤ 5) : sumF f x z y ≤ y := by
  induction y with
  | zero => exact Nat.le_refl _
  | succ y ih =>
    have h1 := ih (by omega)
    have h2 := hf (64 * (5 * y + x) + z) (by omega)
    simp only [sumF]
    omega
def colB (f : Nat → Nat) (k : Nat) : Nat := sumF f (k / 64) (k % 64) 5 % 2
def thB (f : Nat → Nat) (i : Nat) : Nat := (f i + (colB f (64 * ((i / 64 % 5 + 4) % 5) + i % 64) + colB f (64 * ((i / 64 % 5 + 1) % 5) + (i % 64 + 63) % 64))) % 2

set_option maxRecDepth 100000 in
set_option maxHeartbeats 4000000 in
theorem rtheta_any (b0 : Nat) (v : Value) (f : Nat → Nat) (hf : ∀ i, i < 1600 → f i < 2) (w : World) (h : Bi w b0 v 1600 f) :
    Calls Tryd.prog 26 #[v] w fun e W' => ∃ v', e = .returned v' ∧ Bi W' w.heap.size v' 1600 (thB f) ∧ Below w.heap.size w W' := by
  obtain ⟨g, c, rfl, _, hg, hc1, hc2⟩ := Sl.form h (by omega)
  have hmk := run_ints1600
  have hN := Bi.nil_ w w.heap.size (colB f)
  go_enter Tryd.func26, Tryd.ntmps26
  go_wp2_with fail
  go_loopw [3, 4] (fun cv t wr => ∃ x : Nat, x ≤ 5 ∧ t = .int .i64 x ∧ Bi wr w.heap.size cv (64 * x) (colB f) ∧ Below w.heap.size w wr) (fun _ t _ => 5 - (intOf t).toNat)
  case atStart => exact ⟨0, by omega, rfl, hN, Below.refl _ _⟩
  case round =>
    clear hN
    obtain ⟨x, hx, rfl, hC, hB⟩ := hrel
    by_cases hlt : x < 5
    · have j1 : (x : Int) < 5 := by omega
      go_wp2_with fail
      go_loopw [3, 5] (fun cv t wr => ∃ z : Nat, z ≤ 64 ∧ t = .int .i64 z ∧ Bi wr w.heap.size cv (64 * x + z) (colB f) ∧ Below w.heap.size w wr) (fun _ t _ => 64 - (intOf t).toNat)
      case atStart => exact ⟨0, by omega, rfl, hC, hB⟩
      case round =>
        clear hC hB
        obtain ⟨z, hz, rfl, hC, hB⟩ := hrel
        by_cases hlt2 : z < 64
        · have j2 : (z : Int) < 64 := by omega
          go_wp2_with fail
          go_loopw [6, 7] (fun m t wq => ∃ y : Nat, y ≤ 5 ∧ t = .int .i64 y ∧ m = .int .i64 ((sumF f x z y : Nat) : Int) ∧ wq = wr) (fun _ t _ => 5 - (intOf t).toNat)
          case atStart => exact ⟨0, by omega, rfl, rfl, rfl⟩
          case round =>
            obtain ⟨y, hy, rfl, rfl, rfl⟩ := hrel
            have hsl := sumF_le f hf x z y hlt hlt2 hy
            by_cases hlt3 : y < 5
            · have j3 : (y : Int) < 5 := by omega
              obtain ⟨p, hp⟩ : ∃ p, p = 64 * (5 * y + x) + z := ⟨_, rfl⟩
              have hpl : p < 1600 := by omega
              have j4 : (p : Int) < 1600 := by omega
              have a1 := at_nat x y z p hp hlt hlt3 hlt2
              have c1 := (Bi.later h hB).cell p hpl
              have hs : sumF f x z (y + 1) = sumF f x z y + f p := by rw [hp]; rfl
              have b1 := hf p hpl
              generalize sumF f x z y = m at *
              generalize f p = q at *
              have b1' : (q : Int) < 2 := by omega
              have b2' : (m : Int) ≤ 5 := by omega
              clear hp
              go_wp2_with fail
              refine (a1 _).mono ?_
              rintro e w' ⟨rfl, rfl⟩
              go_wp2_with fail
              go_roundw
              case rel => exact ⟨y + 1, by omega, by go_num, by rw [hs]; go_num, by first | rfl | trivial⟩
              case measure => simp [intOf]; omega
            · obtain rfl : y = 5 := by omega
              obtain ⟨m, hm⟩ : ∃ m, sumF f x z 5 = m := ⟨_, rfl⟩
              obtain ⟨u, hu⟩ : ∃ u, m % 2 = u := ⟨_, rfl⟩
              have hcu : colB f (64 * x + z) = u := by
                unfold colB
                rw [show (64 * x + z) / 64 = x by omega, show (64 * x + z) % 64 = z by omega, hm, hu]
              rw [hm] at hsl ⊢
              have b1' : (m : Int) ≤ 5 := by omega
              have i1 : (m : Int) % 2 = (u : Int) := by omega
              have i2 : (m : Int).tmod 2 = (u : Int) := by rw [← hu]; rfl
              have hbs := hB.size
              clear hm hu
              go_wp2_with (at_builtin; go_loud (refine wpList_append_one rfl _ _ rfl w.heap.size (64 * x + z) _ (colB f) rfl (hC.alloc _) wr.heap.size u rfl (Holds_.new wr 3 _) hcu.symm (by omega) ?d1 ?_))
              case d1 => simp; omega
              intro v' w' hC' hb'
              have hB' : Below w.heap.size w w' := (hB.alloc hbs _).trans hb'
              go_wp2_with fail
              go_roundw
              case rel => exact ⟨z + 1, by omega, by go_num, hC', hB'⟩
              case measure => simp [intOf]; omega
        · obtain rfl : z = 64 := by omega
          go_wp2_with fail
          go_roundw
          case rel => exact ⟨x + 1, by omega, by go_num, hC, hB⟩
          case measure => simp [intOf]; omega
    · rw [show 64 * x = 320 by omega] at hC
      have hx5 : ¬ (x : Int) < 5 := by omega
      clear hlt hx
      generalize x = xe at *
      obtain ⟨gc, cc, rfl, _, hgc, _, _⟩ := Sl.form hC (by omega)
      have hZ := Bi.zeros 1600 (by decide) wr
      have hB1 := (Below.refl wr.heap.size wr).alloc (Nat.le_refl _) (.cells (rl 1600 (fun _ => 0)).toArray 3)
      have hP : Bp (wr.alloc (.cells (rl 1600 (fun _ => 0)).toArray 3)) wr.heap.size (.slice (some ⟨wr.heap.size, 0, none⟩) 1600 1600) (thB f) (fun i => i / 64 % 5 < 0) := ⟨_, hZ, fun i _ hi => by omega⟩
      clear hZ
      go_wp2_with fail
      generalize (wr.alloc (.cells (rl 1600 (fun _ => 0)).toArray 3)) = w0 at *
      clear hmk
      have hR := Bi.later h hB
      have hsz := hB.size
      have hRl : ∀ W, Below wr.heap.size wr W → Bi W b0 (.slice (some ⟨g, 0, none⟩) 1600 c) 1600 f := fun W hb => hR.later hb
      have hCl : ∀ W, Below wr.heap.size wr W → Bi W w.heap.size (.slice (some ⟨gc, 0, none⟩) 320 cc) 320 (colB f) := fun W hb => hC.later hb
      have hBl : ∀ W, Below wr.heap.size wr W → Below w.heap.size w W := fun W hb => hB.trans (hb.mono hsz)
      generalize hwm : wr = wm at *
      generalize hgm : wm.heap.size = gm at *
      clear hR hB hC h
      go_loopw [9] (fun t wq => ∃ x : Nat, x ≤ 5 ∧ t = .int .i64 x ∧ Bp wq gm (.slice (some ⟨gm, 0, none⟩) 1600 1600) (thB f) (fun i => i / 64 % 5 < x) ∧ Below gm wm wq) (fun t _ => 5 - (intOf t).toNat)
      case atStart => exact ⟨0, by omega, rfl, hP, hB1⟩
      case round =>
        clear hP hB1
        obtain ⟨x, hx, rfl, hP, hB⟩ := hrel
        by_cases hlt : x < 5
        · have j1 : (x : Int) < 5 := by omega
          go_wp2_with fail
          go_loopw [10] (fun t wq => ∃ z : Nat, z ≤ 64 ∧ t = .int .i64 z ∧ Bp wq gm (.slice (some ⟨gm, 0, none⟩) 1600 1600) (thB f) (fun i => i / 64 % 5 < x ∨ (i / 64 % 5 = x ∧ i % 64 < z)) ∧ Below gm wm wq) (fun t _ => 64 - (intOf t).toNat)
          case atStart => exact ⟨0, by omega, rfl, hP.mono (fun i _ hi => by omega), hB⟩
          case round =>
            clear hP hB
            obtain ⟨z, hz, rfl, hP, hB⟩ := hrel
            by_cases hlt2 : z < 64
            · have j2 : (z : Int) < 64 := by omega
              obtain ⟨x4, hx4⟩ : ∃ u, x + 4 = u := ⟨_, rfl⟩
              obtain ⟨xa, hxa⟩ : ∃ u, x4 % 5 = u := ⟨_, rfl⟩
              obtain ⟨m1, hm1⟩ : ∃ u, 64 * xa = u := ⟨_, rfl⟩
              obtain ⟨p1, hp1⟩ : ∃ u, m1 + z = u := ⟨_, rfl⟩
              obtain ⟨x1, hx1⟩ : ∃ u, x + 1 = u := ⟨_, rfl⟩
              obtain ⟨xb, hxb⟩ : ∃ u, x1 % 5 = u := ⟨_, rfl⟩
              obtain ⟨m2, hm2⟩ : ∃ u, 64 * xb = u := ⟨_, rfl⟩
              obtain ⟨z3, hz3⟩ : ∃ u, z + 63 = u := ⟨_, rfl⟩
              obtain ⟨zb, hzb⟩ : ∃ u, z3 % 64 = u := ⟨_, rfl⟩
              obtain ⟨p2, hp2⟩ : ∃ u, m2 + zb = u := ⟨_, rfl⟩
              have hp1l : p1 < 320 := by omega
              have hp2l : p2 < 320 := by omega
              have j4 : (p1 : Int) < 320 := by omega
              have j5 : (p2 : Int) < 320 := by omega
              have k1 : IntKind.i64.wrap ((x : Int) + 4) = (x4 : Int) := (IntWalk.i64_in _ (by omega)).trans (by omega)
              have k2 : (x4 : Int).tmod 5 = (xa : Int) := by rw [← hxa]; rfl
              have k3 : IntKind.i64.wrap (64 * (xa : Int)) = (m1 : Int) := (IntWalk.i64_in _ (by omega)).trans (by omega)
              have k4 : IntKind.i64.wrap ((m1 : Int) + (z : Int)) = (p1 : Int) := (IntWalk.i64_in _ (by omega)).trans (by omega)
              have k5 : IntKind.i64.wrap ((x : Int) + 1) = (x1 : Int) := (IntWalk.i64_in _ (by omega)).trans (by omega)
              have k6 : (x1 : Int).tmod 5 = (xb : Int) := by rw [← hxb]; rfl
              have k7 : IntKind.i64.wrap (64 * (xb : Int)) = (m2 : Int) := (IntWalk.i64_in _ (by omega)).trans (by omega)
              have k8 : IntKind.i64.wrap ((z : Int) + 63) = (z3 : Int) := (IntWalk.i64_in _ (by omega)).trans (by omega)
              have k9 : (z3 : Int).tmod 64 = (zb : Int) := by rw [← hzb]; rfl
              have k10 : IntKind.i64.wrap ((m2 : Int) + (zb : Int)) = (p2 : Int) := (IntWalk.i64_in _ (by omega)).trans (by omega)
              have hC := hCl _ hB
              have c1 := hC.cell p1 hp1l
              have c2 := hC.cell p2 hp2l
              have hT : ∀ y, y < 5 → thB f (64 * (5 * y + x) + z) = (f (64 * (5 * y + x) + z) + (colB f p1 + colB f p2)) % 2 := by
                intro y hy
                unfold thB
                rw [pos_x hlt hlt2, pos_z hlt2, hx4, hxa, hm1, hp1, hx1, hxb, hm2, hz3, hzb, hp2]
              have b1 : colB f p1 < 2 := Nat.mod_lt _ (by omega)
              have b2 : colB f p2 < 2 := Nat.mod_lt _ (by omega)
              generalize colB f p1 = q1 at *
              generalize colB f p2 = q2 at *
              obtain ⟨d, hd⟩ : ∃ d, q1 + q2 = d := ⟨_, rfl⟩
              have k11 : IntKind.i64.wrap ((q1 : Int) + (q2 : Int)) = (d : Int) := (IntWalk.i64_in _ (by omega)).trans (by omega)
              have b3 : d < 4 := by omega
              rw [hd] at hT
              clear hx4 hxa hm1 hp1 hx1 hxb hm2 hz3 hzb hp2 hd hC
              go_wp2_with fail
              refine wp_region_still (by kernel_rfl) (by kernel_rfl) ?_
              repeat still_step
              refine wpStill_nil ?_
              clear k1 k2 k3 k4 k5 k6 k7 k8 k9 k10 k11 c1 c2 j4 j5
              have hPd := hP.drew
              have hBd := hB.drew
              clear hP hB
              go_wp2_with fail
              go_loopw [12] (fun t wq => ∃ y : Nat, y ≤ 5 ∧ t = .int .i64 y ∧ Bp wq gm (.slice (some ⟨gm, 0, none⟩) 1600 1600) (thB f) (fun i => (i / 64 % 5 < x ∨ (i / 64 % 5 = x ∧ i % 64 < z)) ∨ (i / 64 % 5 = x ∧ i % 64 = z ∧ i / 320 < y)) ∧ Below gm wm wq) (fun t _ => 5 - (intOf t).toNat)
              case atStart => exact ⟨0, by omega, rfl, hPd.mono (fun i _ hi => by omega), hBd⟩
              case round =>
                clear hPd hBd
                obtain ⟨y, hy, rfl, hP, hB⟩ := hrel
                by_cases hlt3 : y < 5
                · have j3 : (y : Int) < 5 := by omega
                  have hT := hT y hlt3
                  obtain ⟨p, hp⟩ : ∃ p, p = 64 * (5 * y + x) + z := ⟨_, rfl⟩
                  have hpl : p < 1600 := by omega
                  have j4 : (p : Int) < 1600 := by omega
                  have a1 := at_nat x y z p hp hlt hlt3 hlt2
                  rw [← hp] at hT
                  have hR := hRl _ hB
                  have c1 := hR.cell p hpl
                  have f1 := hP.free p hpl
                  obtain ⟨u1, c2⟩ := hP.got p hpl
                  have hPn := hP.put (D' := fun i => (i / 64 % 5 < x ∨ (i / 64 % 5 = x ∧ i % 64 < z)) ∨ (i / 64 % 5 = x ∧ i % 64 = z ∧ i / 320 < y + 1)) p (fun i hi hD => by
                    rcases hD with hD | ⟨h1, h2, h3⟩
                    · exact .inr (.inl hD)
                    · by_cases h4 : i / 320 = y
                      · exact .inl (by rw [hp]; exact pos_eq h1 h4 h2)
                      · exact .inr (.inr ⟨h1, h2, by omega⟩))
                  have hBn := hB.setCell (p := ⟨gm, p, none⟩) (Nat.le_refl _) (.int .i64 ((thB f p : Nat) : Int))
                  have b0 := hf p hpl
                  generalize thB f p = t at *
                  generalize f p = q0 at *
                  have i1 : ((q0 : Int) + (d : Int)) % 2 = (t : Int) := by omega
                  have b0' : (q0 : Int) < 2 := by omega
                  have b3' : (d : Int) < 4 := by omega
                  clear hP hB hR hT hp
                  go_wp2_with fail
                  refine (a1 _).mono ?_
                  rintro e w' ⟨rfl, rfl⟩
                  go_wp2_with fail
                  refine (a1 _).mono ?_
                  rintro e w' ⟨rfl, rfl⟩
                  go_wp2_with fail
                  go_roundw
                  case rel => exact ⟨y + 1, by omega, by go_num, hPn, hBn⟩
                  case measure => simp [intOf]; omega
                · obtain rfl : y = 5 := by omega
                  go_wp2_with fail
                  go_roundw
                  case rel => exact ⟨z + 1, by omega, by go_num, hP.mono (fun i _ hi => by omega), hB⟩
                  case measure => simp [intOf]; omega
            · obtain rfl : z = 64 := by omega
              go_wp2_with fail
              go_roundw
              case rel => exact ⟨x + 1, by omega, by go_num, hP.mono (fun i _ hi => by omega), hB⟩
              case measure => simp [intOf]; omega
        · obtain rfl : x = 5 := by omega
          go_wp2_with fail
          go_ret
          exact ⟨_, rfl, (hP.all (fun i _ => by omega)).lower hsz, hBl _ hB⟩
end Go.Proofs.YtblfodhbimgonaaDoor
