/- The document's rho, by its walk. -/
import Derived.Test.YtblfodhbimgonaaDoorBc
namespace Go.Proofs.YtblfodhbimgonaaDoor
open Go.RowKit Go.Shelf
set_option linter.unusedVariables false
set_option linter.unusedSimpArgs false

/-- What two slices hold, one behind the other. -/
def joinF (n : Nat) (f f2 : Nat → Nat) (i : Nat) : Nat := if i < n then f i else f2 (i - n)
theorem rl_join (n m : Nat) (f f2 : Nat → Nat) : rl n f ++ rl m f2 = rl (n + m) (joinF n f f2) := by
  apply List.ext_getElem?
  intro i
  rw [List.getElem?_append, rl_length]
  by_cases h : i < n
  · rw [if_pos h, rl_get _ _ _ h, rl_get _ _ _ (by omega)]
    unfold joinF
    rw [if_pos h]
  · rw [if_neg h]
    by_cases h2 : i < n + m
    · rw [rl_get _ _ _ (by omega), rl_get _ _ _ h2]
      unfold joinF
      rw [if_neg h]
    · rw [List.getElem?_eq_none (by rw [rl_length]; omega), List.getElem?_eq_none (by rw [rl_length]; omega)]
theorem wpList_append_Bi {ops : Array Oper} {rest : List Oper} {o : Oper} {a : Act} {w : World} {Q : Exit → Act → World → Prop} (hgd : o.guard = none) (s x : Operand)
    (ho : o.op = .call { callee := .builtin .append, args := #[s, x], argTypes := #[41, 41] }) (base n : Nat) (v : Value) (f : Nat → Nat) (hs : a.eval s = v) (hown : Bi w base v n f)
    (b2 g m c : Nat) (f2 : Nat → Nat) (hx : a.eval x = .slice (some ⟨g, 0, none⟩) m c) (hM : Bi w b2 (.slice (some ⟨g, 0, none⟩) m c) m f2) (hn : n + m ≤ 100000) (hbase : base ≤ w.heap.size)
    (h : ∀ v' w', Bi w' base v' (n + m) (joinF n f f2) → Below base w w' → wpList Tryd.prog ops Q rest (a.put o.dst v') w') : wpList Tryd.prog ops Q (o :: rest) a w := by
  obtain ⟨i0, hi, hz0, hz1, hz2⟩ := info_parts info3
  obtain ⟨v', w', r1, r2, r3, _⟩ := run_append_Sl (P := Tryd.prog) w base 41 o.type 3 i0 (.int .i64 0) 1 8 Tryd.underlying41 hi hz0 hz1 hz2 rfl (by decide) v n (rl n f) hown ⟨g, 0, none⟩ m c (rl m f2) (by rw [rl_length, Nat.mul_one])
    (fun j u hu => by
      rw [show (⟨g, 0, none⟩ : Addr).add j = ⟨g, j, none⟩ from by unfold Addr.add; split <;> simp_all]
      have hj : j < m := by have := (List.getElem?_eq_some_iff.1 hu).1; rwa [rl_length] at this
      rw [rl_get _ _ _ hj] at hu
      rw [hM.cell j hj, hu])
    (fun u hu => by
      simp only [rl, List.mem_map] at hu
      obtain ⟨i, _, rfl⟩ := hu
      rfl) (by unfold maxLen; omega) (by omega) hbase
  have hb : Below base w w' := (Below.refl base w).grown r3 hbase (fun k e => (Sl.lt hown k e).1)
  have hB : Bi w' base v' (n + m) (joinF n f f2) := by
    unfold Bi
    rw [← rl_join]
    exact r2
  exact wpList_plain hgd fun _ hK => by
    unfold Oper.wp execOp
    simp only [ho, resolve, invoke, builtin, Sem.run_bind, Sem.run_pure, Result.andThen_ok, List.map_toArray, List.map_cons, List.map_nil, hs, hx, r1]
    exact hK _ _ (h v' w' hB hb)
theorem at_r (x y z r p : Nat) (hp : p = 64 * (5 * y + x) + (z + 64 - r) % 64) (hx : x < 5) (hy : y < 5) (hz : z < 64) (hr : r < 64) (w : World) :
    Calls Tryd.prog 33 #[.int .i64 (x : Int), .int .i64 (y : Int), .int .i64 ((z : Int) - (r : Int))] w fun e w' => e = .returned (.int .i64 (p : Int)) ∧ w = w' := by
  refine (at_any _ _ _ _ (by omega) (by omega) (by omega) (by omega) (by omega) (by omega)).mono ?_
  rintro e w' ⟨rfl, rfl⟩
  exact ⟨ret_int (by unfold atS; omega), rfl⟩

/-- 'rho', lane by lane. -/
def rotR (t : Nat) : Nat := (t + 1) * (t + 2) / 2 % 64
def rhoZ (f old : Nat → Nat) (l r z i : Nat) : Nat := if i / 64 = l ∧ i % 64 < z then f (64 * l + (i % 64 + 64 - r) % 64) else old i
def rhoTo (f : Nat → Nat) : Nat → Nat → Nat
  | 0 => f
  | t + 1 => rhoZ f (rhoTo f t) (5 * (Kec.xy t).2 + (Kec.xy t).1) (rotR t) 64
def rhoB (f : Nat → Nat) : Nat → Nat := rhoTo f 24
theorem rhoZ_zero (f old : Nat → Nat) (l r i : Nat) : old i = rhoZ f old l r 0 i := by unfold rhoZ; rw [if_neg (by omega)]
theorem rhoZ_put (f old : Nat → Nat) (l r z i : Nat) (hz : z < 64) : Kec.upd (rhoZ f old l r z) (64 * l + z) (f (64 * l + (z + 64 - r) % 64)) i = rhoZ f old l r (z + 1) i := by
  by_cases h : i = 64 * l + z
  · rw [h, Kec.upd_same]
    unfold rhoZ
    rw [if_pos ⟨by omega, by omega⟩, show (64 * l + z) % 64 = z by omega]
  · rw [Kec.upd_other _ _ _ _ h]
    unfold rhoZ
    by_cases h2 : i / 64 = l ∧ i % 64 < z
    · rw [if_pos h2, if_pos ⟨h2.1, by omega⟩]
    · rw [if_neg h2, if_neg (fun h3 => by omega)]

set_option maxRecDepth 100000 in
set_option maxHeartbeats 2000000 in
theorem rrho_any (b0 : Nat) (v : Value) (f : Nat → Nat) (w : World) (h : Bi w b0 v 1600 f) :
    Calls Tryd.prog 25 #[v] w fun e W' => ∃ v', e = .returned v' ∧ Bi W' w.heap.size v' 1600 (rhoB f) ∧ Below w.heap.size w W' := by
  obtain ⟨g, c, rfl, _, hg, hc1, hc2⟩ := Sl.form h (by omega)
  have hN := Bi.nil_ w w.heap.size f
  go_enter Tryd.func25, Tryd.ntmps25
  go_wp2_with (at_builtin; refine wpList_append_Bi rfl _ _ rfl w.heap.size 0 _ f rfl hN b0 g 1600 c f rfl h (by omega) (Nat.le_refl _) ?_)
  intro vo w1 hO hB1
  have hO : Bi w1 w.heap.size vo 1600 (rhoTo f 0) := by
    have h2 := hO.congr (f' := f) (fun i hi => by unfold joinF; rw [if_neg (by omega)]; rfl)
    exact h2
  obtain ⟨go, co, rfl, hgo, _, _, _⟩ := Sl.form hO (by omega)
  clear hN
  go_wp2_with fail
  go_loopw [4, 5, 6] (fun xv yv tv wr => ∃ t : Nat, t ≤ 24 ∧ tv = .int .i64 t ∧ xv = .int .i64 ((Kec.xy t).1 : Nat) ∧ yv = .int .i64 ((Kec.xy t).2 : Nat) ∧ Bi wr w.heap.size (.slice (some ⟨go, 0, none⟩) 1600 co) 1600 (rhoTo f t) ∧ Below w.heap.size w wr) (fun _ _ tv _ => 24 - (intOf tv).toNat)
  case atStart => exact ⟨0, by omega, rfl, rfl, rfl, hO, hB1⟩
  case round =>
    clear hO hB1
    obtain ⟨t, ht, rfl, rfl, rfl, hO, hB⟩ := hrel
    by_cases hlt : t < 24
    · have j1 : (t : Int) < 24 := by omega
      obtain ⟨hx, hy⟩ := Kec.xy_lt t
      have hx2 : (Kec.xy (t + 1)).1 = (Kec.xy t).2 := rfl
      have hy2 : (Kec.xy (t + 1)).2 = (2 * (Kec.xy t).1 + 3 * (Kec.xy t).2) % 5 := rfl
      have hto : rhoTo f (t + 1) = rhoZ f (rhoTo f t) (5 * (Kec.xy t).2 + (Kec.xy t).1) (rotR t) 64 := rfl
      obtain ⟨r, hr⟩ : ∃ r, rotR t = r := ⟨_, rfl⟩
      rw [hr] at hto
      generalize (Kec.xy t).1 = x at *
      generalize (Kec.xy t).2 = y at *
      generalize rhoTo f t = old at *
      obtain ⟨m, hm⟩ : ∃ m, (t + 1) * (t + 2) = m := ⟨_, rfl⟩
      have hm2 : m ≤ 600 := by rw [← hm]; exact Nat.le_trans (Nat.mul_le_mul (show t + 1 ≤ 24 by omega) (show t + 2 ≤ 25 by omega)) (by decide)
      unfold rotR at hr
      rw [hm] at hr
      have i1 : ((t : Int) + 1) * ((t : Int) + 2) = (m : Int) := by rw [← hm, Int.natCast_mul]; rfl
      obtain ⟨hh, hhh⟩ : ∃ hh, m / 2 = hh := ⟨_, rfl⟩
      rw [hhh] at hr
      have i2 : (m : Int) / 2 = (hh : Int) := by omega
      have i4 : (hh : Int).tmod 64 = (r : Int) := by rw [← hr]; rfl
      have b5 : (hh : Int) ≤ 600 := by omega
      have hrl : r < 64 := by omega
      have b1 : (r : Int) < 64 := by omega
      have b2 : (x : Int) < 5 := by omega
      have b3 : (y : Int) < 5 := by omega
      have b4 : (m : Int) ≤ 600 := by omega
      clear hm hr hhh
      go_wp2_with fail
      go_loopw [8] (fun zv wq => ∃ z : Nat, z ≤ 64 ∧ zv = .int .i64 z ∧ Bi wq w.heap.size (.slice (some ⟨go, 0, none⟩) 1600 co) 1600 (rhoZ f old (5 * y + x) r z) ∧ Below w.heap.size w wq) (fun zv _ => 64 - (intOf zv).toNat)
      case atStart => exact ⟨0, by omega, rfl, hO.congr (fun i _ => rhoZ_zero _ _ _ _ _), hB⟩
      case round =>
        clear hO hB
        obtain ⟨z, hz, rfl, hO, hB⟩ := hrel
        by_cases hlt2 : z < 64
        · have j2 : (z : Int) < 64 := by omega
          obtain ⟨p, hp⟩ : ∃ p, p = 64 * (5 * y + x) + z := ⟨_, rfl⟩
          obtain ⟨s, hs⟩ : ∃ s, s = 64 * (5 * y + x) + (z + 64 - r) % 64 := ⟨_, rfl⟩
          have hpl : p < 1600 := by omega
          have hsl : s < 1600 := by omega
          have j4 : (p : Int) < 1600 := by omega
          have j5 : (s : Int) < 1600 := by omega
          have a1 := at_nat x y z p hp hx hy hlt2
          have a2 := at_r x y z r s hs hx hy hlt2 hrl
          have hR := Bi.later h hB
          have c1 := hR.cell s hsl
          have c2 := hO.cell p hpl
          have f1 := hO.free p hpl
          have hOn : Bi (wr.setCell ⟨go, p, none⟩ (.int .i64 ((f s : Nat) : Int))) w.heap.size (.slice (some ⟨go, 0, none⟩) 1600 co) 1600 (rhoZ f old (5 * y + x) r (z + 1)) :=
            (hO.put p (f s)).congr (fun i hi => by rw [hp, hs]; exact rhoZ_put _ _ _ _ _ _ hlt2)
          have hBn := hB.setCell (p := ⟨go, p, none⟩) hgo (.int .i64 ((f s : Nat) : Int))
          clear hO hB hR hp hs i1 i2 i4
          go_wp2_with fail
          refine (a1 _).mono ?_
          rintro e w' ⟨rfl, rfl⟩
          go_wp2_with fail
          refine (a2 _).mono ?_
          rintro e w' ⟨rfl, rfl⟩
          go_wp2_with fail
          go_roundw
          case rel => exact ⟨z + 1, by omega, by go_num, hOn, hBn⟩
          case measure => simp [intOf]; omega
        · obtain rfl : z = 64 := by omega
          have i3 : (2 * (x : Int) + 3 * (y : Int)).tmod 5 = (((2 * x + 3 * y) % 5 : Nat) : Int) := rfl
          rw [← hto] at hO
          go_wp2_with fail
          go_roundw
          case rel => exact ⟨t + 1, by omega, by go_num, by rw [hx2], by rw [hy2]; first | rfl | go_num, hO, hB⟩
          case measure => simp [intOf]; omega
    · obtain rfl : t = 24 := by omega
      go_wp2_with fail
      go_ret
      exact ⟨_, rfl, hO, hB⟩
end Go.Proofs.YtblfodhbimgonaaDoor
