/- The document's roots and pad, by their walks. -/
import Derived.Test.YtkgbecgdappjoaaDoorNg
import Derived.Test.YtkgbecgdappjoaaDoorNh
namespace Go.Proofs.YtkgbecgdappjoaaDoor
open Go.RowKit Go.Shelf
set_option linter.unusedVariables false
set_option linter.unusedSimpArgs false

theorem root_any (n : Nat) (cube : Bool) (hn : n < 512) (w : World) :
    Calls Tryd.prog 31 #[.int .i64 (n : Int), .bool cube] w fun e W' => e = .returned (.int .i64 ((rootN n cube : Nat) : Int)) ∧ Below w.heap.size w W' := by
  cases cube with
  | false => exact root_false n hn w
  | true => exact root_true n hn w
theorem gl_lt (k : Nat) : gl P64 k < 512 := by
  unfold gl
  by_cases h : k < P64.length
  · have := P64_two _ (List.getElem_mem h)
    simp only [List.getD, List.getElem?_eq_getElem h]
    simp only [Option.getD_some]
    omega
  · simp [List.getD, List.getElem?_eq_none (Nat.le_of_not_lt h)]
def rootsF (cube : Bool) (k : Nat) : Nat := rootN (gl P64 k) cube
theorem rootN_lt (n : Nat) (cube : Bool) : rootN n cube < 4294967296 := Nat.mod_lt _ (by omega)
theorem roots_start : ∀ k, k < 8 → rootsF false k = Sha.hF k := by decide +kernel
theorem roots_consts : ∀ k, k < 64 → rootsF true k = Sha.cF k := by decide +kernel

set_option maxRecDepth 100000 in
set_option maxHeartbeats 2000000 in
theorem roots_any (m : Nat) (hm : m = 8 ∨ m = 64) (cube : Bool) (w : World) :
    Calls Tryd.prog 26 #[.int .i64 (m : Int), .bool cube] w fun e W' => ∃ v', e = .returned v' ∧ Bi W' w.heap.size v' m (rootsF cube) ∧ Below w.heap.size w W' := by
  go_enter Tryd.func26, Tryd.ntmps26
  go_wp2_with fail
  refine (primes_any m hm _).mono ?_
  rintro e w1 ⟨pv', rfl, hp, hB1⟩
  obtain ⟨gp, cp, rfl, _, hgp, _, _⟩ := Sl.form hp (by omega)
  have hN := Bi.nil_ w1 w1.heap.size (rootsF cube)
  have hbs1 := hB1.size
  go_wp2_with fail
  go_loopw [6, 7] (fun ov iv wr => ∃ i : Nat, i ≤ m ∧ iv = .int .i64 i ∧ Bi wr w1.heap.size ov i (rootsF cube) ∧ Below w1.heap.size w1 wr) (fun _ iv _ => m - (intOf iv).toNat)
  case atStart => exact ⟨0, by omega, rfl, hN, Below.refl _ _⟩
  case round =>
    clear hN
    obtain ⟨i, hi, rfl, hO, hB⟩ := hrel
    have hbs := hB.size
    by_cases hlt : i < m
    · have j1 : (i : Int) < (m : Int) := by omega
      have c1 := (hp.later hB).cell i hlt
      have hr := fun W => root_any (gl P64 i) cube (gl_lt i) W
      have hrf : rootsF cube i = rootN (gl P64 i) cube := rfl
      generalize gl P64 i = p at *
      generalize rootN p cube = r at *
      go_wp2_with fail
      refine (hr _).mono ?_
      rintro e w2 ⟨rfl, hb2⟩
      have hO2 := hO.later hb2
      have hbs2 := hb2.size
      go_wp2_with (at_builtin; go_loud (refine wpList_append_one rfl _ _ rfl w1.heap.size i _ (rootsF cube) rfl (hO2.alloc _) w2.heap.size r rfl (Holds_.new w2 3 _) hrf.symm (by omega) ?d1 ?_))
      case d1 => simp; omega
      intro v' w' hO' hb'
      have hB' : Below w1.heap.size w1 w' := ((hB.trans (hb2.mono hbs)).alloc (by omega) _).trans hb'
      go_wp2_with fail
      go_roundw
      case rel => exact ⟨i + 1, by omega, by go_num, hO', hB'⟩
      case measure => simp [intOf]; omega
    · obtain rfl : i = m := by omega
      go_wp2_with fail
      go_ret
      exact ⟨_, rfl, hO.lower hbs1, hB1.trans (hB.mono hbs1)⟩

theorem str_app (l m : List UInt8) : str l ++ str m = str (l ++ m) := by
  apply ByteArray.ext
  simp [str]
theorem high_cons (n k : Nat) : Sha.high n (k + 1) = UInt8.ofNat (n / 2 ^ (8 * k)) :: Sha.high n k := by
  unfold Sha.high Sha.highTo
  rw [List.range_succ_eq_map, List.map_cons, List.map_map]
  congr 1
  apply List.map_congr_left
  intro i hi
  show UInt8.ofNat _ = UInt8.ofNat _
  rw [show k + 1 - 1 - (i + 1) = k - 1 - i by omega]
theorem run_append_bytes_none {w : World} {base n : Nat} {v : Value} {xs : List Value} (i : TypeInfo) (hi : Tryd.prog.info? 5 = some i) (ty : TypeId) (h : Sl w base 5 1 v n xs) : (Builtin.append_ #[26, 26] ty #[v, .slice none 0 0]).run Tryd.prog w = .ok v w := by
  rcases h.2 with ⟨rfl, rfl⟩ | ⟨g, cap, cur, fr, rfl, h2, h3, h4, h5, h6, h7, h8⟩
  · simp [Builtin.append_, run_underlying Tryd.underlying26, sizeOf, typeInfo, hi, Builtin.lenOf, Builtin.firstCells, storeCells]
  · simp [Builtin.append_, run_underlying Tryd.underlying26, sizeOf, typeInfo, hi, Builtin.lenOf, Builtin.firstCells, h5, storeCells]
/-- Bytes onto bytes. -/
theorem wpList_append_bytes {ops : Array Oper} {rest : List Oper} {o : Oper} {a : Act} {w : World} {Q : Exit → Act → World → Prop} (hgd : o.guard = none) (s x : Operand)
    (ho : o.op = .call { callee := .builtin .append, args := #[s, x], argTypes := #[26, 26] }) (base n : Nat) (v : Value) (l : List UInt8) (hs : a.eval s = v) (hown : Sl w base 5 1 v n (bytesV l))
    (b2 m : Nat) (u : Value) (M : List UInt8) (hx : a.eval x = u) (hM : Sl w b2 5 1 u m (bytesV M)) (hn : n + m ≤ 2000000) (hbase : base ≤ w.heap.size)
    (h : ∀ v' w', Sl w' base 5 1 v' (n + m) (bytesV (l ++ M)) → Below base w w' → wpList Tryd.prog ops Q rest (a.put o.dst v') w') : wpList Tryd.prog ops Q (o :: rest) a w := by
  obtain ⟨i0, hi, hz0, hz1, hz2⟩ := info_parts info5
  have hrun : ∃ v' w', (Builtin.append_ #[26, 26] o.type #[v, u]).run Tryd.prog w = .ok v' w' ∧ Sl w' base 5 1 v' (n + m) (bytesV (l ++ M)) ∧ Below base w w' := by
    rw [bytesV_append]
    have hml : M.length = m := by have := hM.1; rw [bytesV_length] at this; omega
    rcases hM.2 with ⟨rfl, rfl⟩ | ⟨g, cap, cur, fr, rfl, h2, h3, h4, h5, h6, h7, h8⟩
    · obtain rfl : M = [] := List.eq_nil_of_length_eq_zero hml
      exact ⟨v, w, run_append_bytes_none i0 hi _ hown, by rw [show bytesV [] = [] from rfl, List.append_nil]; exact hown, Below.refl _ _⟩
    · obtain ⟨v', w', r1, r2, r3, _⟩ := run_append_Sl (P := Tryd.prog) w base 26 o.type 5 i0 (.int .u8 0) 1 1 Tryd.underlying26 hi hz0 hz1 hz2 rfl (by decide) v n (bytesV l) hown ⟨g, 0, none⟩ m cap (bytesV M) (by rw [bytesV_length, hml, Nat.mul_one]) (list_at hM) (bytes_one M) (by unfold maxLen; omega) (by omega) hbase
      exact ⟨v', w', r1, r2, (Below.refl base w).grown r3 hbase (fun k e => (Sl.lt hown k e).1)⟩
  obtain ⟨v', w', r1, r2, r3⟩ := hrun
  exact wpList_plain hgd fun _ hK => by
    unfold Oper.wp execOp
    simp only [ho, resolve, invoke, builtin, Sem.run_bind, Sem.run_pure, Result.andThen_ok, List.map_toArray, List.map_cons, List.map_nil, hs, hx, r1]
    exact hK _ _ (h v' w' r2 r3)
theorem Sl.one {W : World} {g : Nat} {b : UInt8} (h : Holds_ W g 5 #[.int .u8 ((b.toNat : Nat) : Int)]) : Sl W g 5 1 (.slice (some ⟨g, 0, none⟩) 1 1) 1 (bytesV [b]) :=
  ⟨rfl, .inr ⟨g, 1, _, (0, 0), rfl, Nat.le_refl _, h, .inr rfl, Nat.le_refl _, by unfold maxLen; omega, rfl, rfl⟩⟩

def lenS : Value → Nat
  | .string s => s.size
  | _ => 0
open Sha in
set_option maxRecDepth 100000 in
set_option maxHeartbeats 2000000 in
theorem rpad_any (l : List UInt8) (hl : l.length ≤ 1048576) (w : World) :
    Calls Tryd.prog 27 #[.string (str l)] w fun e W' => e = .returned (.string (str (Sha.padL l))) ∧ Below w.heap.size w W' := by
  rw [padL_eq]
  have s0 : (str l).size = l.length := rfl
  have a0 : str l ++ ⟨#[128]⟩ = str (padM l 0) := str_app l [128]
  have hpm := fun j => padM_length l j
  have hsucc : ∀ j, str (padM l j) ++ ⟨#[0]⟩ = str (padM l (j + 1)) := fun j => (str_app (padM l j) [0]).trans (by rw [← padM_succ])
  have hno : (9223372036854775807 < l.length + 1) = False := eq_false (by omega)
  obtain ⟨N, hN⟩ : ∃ N, padN l.length = N := ⟨_, rfl⟩
  have htest := fun j => padN_test l.length j
  have hfull := padN_full l.length
  have hNl := padN_lt l.length
  rw [hN] at hfull hNl htest ⊢
  obtain ⟨L, hL⟩ : ∃ L, l.length = L := ⟨_, rfl⟩
  rw [hL] at hpm hno htest hfull hl s0 ⊢
  obtain ⟨n, hn⟩ : ∃ n, 8 * L = n := ⟨_, rfl⟩
  rw [hn]
  go_enter Tryd.func27, Tryd.ntmps27
  go_wp2_with fail
  go_loopw [3] (fun sv wr => ∃ j : Nat, j ≤ N ∧ sv = .string (str (padM l j)) ∧ Below w.heap.size w wr) (fun sv _ => L + 1 + N - lenS sv)
  case atStart => exact ⟨0, by omega, by first | rfl | rw [a0], Below.refl _ _⟩
  case round =>
    obtain ⟨j, hj, rfl, hB⟩ := hrel
    obtain ⟨m, hm⟩ : ∃ m, L + 1 + j = m := ⟨_, rfl⟩
    have hsz : (str (padM l j)).size = m := (hpm j).trans hm
    obtain ⟨r, hr⟩ : ∃ r, m % 64 = r := ⟨_, rfl⟩
    have k1 : (m : Int).tmod 64 = (r : Int) := by rw [← hr]; rfl
    have k2 : (m : Int) % 64 = (r : Int) := by omega
    by_cases hlt : j < N
    · have hr56 : r ≠ 56 := by rw [← hr, ← hm]; exact htest j hlt
      have ht : ((r : Int) != 56) = true := by rw [bne_iff_ne]; omega
      have hs := hsucc j
      have hno2 : (9223372036854775807 < m + 1) = False := eq_false (by omega)
      have hsz2 : (str (padM l (j + 1))).size = m + 1 := (hpm (j + 1)).trans (by omega)
      have HM := Lib.hid hsz
      have HM2 := Lib.hid hsz2
      have HMM := Lib.hid hm
      clear hsz2 htest hpm hsucc a0 hfull hr hr56 hm
      go_wp2_with fail
      go_roundw
      case rel => exact ⟨j + 1, by omega, by first | rfl | rw [hs], hB⟩
      case measure =>
        have e1 := HM.out
        have e2 := HM2.out
        have e3 := HMM.out
        show _ - lenS _ < _ - lenS (.string (str (padM l j)))
        first
          | (show L + 1 + N - (str (padM l (j + 1))).size < L + 1 + N - (str (padM l j)).size; omega)
          | (rw [hs]; show L + 1 + N - (str (padM l (j + 1))).size < L + 1 + N - (str (padM l j)).size; omega)
    · obtain rfl : j = N := by omega
      have hr56 : r = 56 := by rw [← hr, ← hm]; exact hfull
      have ht : ((r : Int) != 56) = false := by rw [bne_eq_false_iff_eq]; omega
      have k3 : 8 * (L : Int) = (n : Int) := by omega
      have hnl : n ≤ 8388608 := by omega
      have hS0 : Sl wr w.heap.size 5 1 (.slice none 0 0) 0 (bytesV (high n 0)) := Sl.nil_ _ _ _ _
      have hap := str_app (padM l j) (high n 8)
      have hno2 : (9223372036854775807 < m + 8) = False := eq_false (by omega)
      have h8 : (str (high n 8)).size = 8 := high_length n 8
      have h8' : (high n 8).length = 8 := high_length n 8
      clear htest hpm hsucc a0 hfull hr hr56 hm hno hN
      go_wp2_with fail
      clear ht k1 k2
      go_loopw [4, 5, 6] (fun nv bv iv wq => ∃ i : Nat, i ≤ 8 ∧ iv = .int .i64 i ∧ nv = .int .i64 ((n / 256 ^ i : Nat) : Int) ∧ Sl wq w.heap.size 5 1 bv i (bytesV (high n i)) ∧ Below w.heap.size w wq) (fun _ _ iv _ => 8 - (intOf iv).toNat)
      case atStart => exact ⟨0, by omega, rfl, by simp, hS0, hB⟩
      case round =>
        clear hS0 hB
        obtain ⟨i, hi, rfl, rfl, hS, hB⟩ := hrel
        have hbs := hB.size
        by_cases hlt2 : i < 8
        · have j2 : (i : Int) < 8 := by omega
          obtain ⟨x, hx⟩ : ∃ x, n / 256 ^ i = x := ⟨_, rfl⟩
          have hxl : x ≤ 8388608 := by rw [← hx]; exact Nat.le_trans (Nat.div_le_self _ _) hnl
          obtain ⟨u, hu⟩ : ∃ u, x % 256 = u := ⟨_, rfl⟩
          obtain ⟨x2, hx2⟩ : ∃ u, x / 256 = u := ⟨_, rfl⟩
          have hub : u = (UInt8.ofNat (n / 2 ^ (8 * i))).toNat := by
            rw [← hu, ← hx, Nat.pow_mul]
            simp
          have hxn : n / 256 ^ (i + 1) = x2 := by rw [Nat.pow_succ, ← Nat.div_div_eq_div_mul, hx, hx2]
          have hhc := high_cons n i
          rw [hx]
          have b1 : (x : Int) ≤ 8388608 := by omega
          have i1 : (x : Int).tmod 256 = (u : Int) := by rw [← hu]; rfl
          have i2 : (x : Int) % 256 = (u : Int) := by omega
          have i3 : (x : Int).tdiv 256 = (x2 : Int) := by rw [← hx2]; rfl
          have i4 : (x : Int) / 256 = (x2 : Int) := by omega
          have b2 : (u : Int) < 256 := by omega
          have b3 : (x2 : Int) ≤ 8388608 := by omega
          have HX := Lib.hid hxn
          have HU := Lib.hid hub
          have HH := Lib.hid hhc
          clear hx hu hx2 hxn hub hhc hsz h8 h8' hno2 hap
          have hone : Sl (wr.alloc (.cells #[.int .u8 ((u : Nat) : Int)] 5)) wr.heap.size 5 1 (.slice (some ⟨wr.heap.size, 0, none⟩) 1 1) 1 (bytesV [UInt8.ofNat (n / 2 ^ (8 * i))]) := Sl.one (by rw [← HU.out]; exact Holds_.new _ _ _)
          go_wp2_with (at_builtin; go_loud (refine wpList_append_bytes rfl _ _ rfl wr.heap.size 1 _ [UInt8.ofNat (n / 2 ^ (8 * i))] rfl hone w.heap.size i _ (high n i) rfl (hS.alloc _) (by omega) ?d1 ?_))
          case d1 => simp
          intro v' w' hS' hb'
          have hB' : Below w.heap.size w w' := (hB.alloc hbs _).trans (hb'.mono hbs)
          have hS2 : Sl w' w.heap.size 5 1 v' (i + 1) (bytesV (high n (i + 1))) := by
            rw [HH.out, show i + 1 = 1 + i by omega]
            exact hS'.lower hbs
          go_wp2_with fail
          go_roundw
          case rel => exact ⟨i + 1, by omega, by go_num, by rw [HX.out], hS2, hB'⟩
          case measure => simp [intOf]; omega
        · obtain rfl : i = 8 := by omega
          have hback := run_string_of_Sl (P := Tryd.prog) 26 9 5 Tryd.underlying26 Tryd.underlying5 Tryd.underlying9 hS
          change _ = Result.ok (Value.string (str (high n 8))) _ at hback
          go_wp2_with fail
          go_ret
          exact ⟨by first | rfl | rw [hap], hB⟩
end Go.Proofs.YtkgbecgdappjoaaDoor
