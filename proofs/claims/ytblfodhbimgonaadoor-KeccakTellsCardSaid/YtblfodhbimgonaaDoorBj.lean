/- The document's Hash and Sum, by their walks. -/
import Derived.Test.YtblfodhbimgonaaDoorBh
namespace Go.Proofs.YtblfodhbimgonaaDoor
open Go.RowKit Go.Shelf
set_option linter.unusedVariables false
set_option linter.unusedSimpArgs false

/-! a word of eight bytes, from the last one down -/
def hwTo (p : List UInt8) (m : Nat) : Nat → Nat
  | 0 => 0
  | j + 1 => 256 * hwTo p m j + (p.getD (m + (7 - j)) 0).toNat
theorem lowN_drop (p : List UInt8) (m n : Nat) (hm : m < p.length) : Kec.lowN ((p.drop m).take (n + 1)) = (p.getD m 0).toNat + 256 * Kec.lowN ((p.drop (m + 1)).take n) := by
  rw [List.drop_eq_getElem_cons hm, List.take_succ_cons, Kec.lowN]
  simp [List.getD, hm]
theorem hwTo_eq (p : List UInt8) (m : Nat) (hm : m + 8 ≤ p.length) : ∀ j, j ≤ 8 → hwTo p m j = Kec.lowN ((p.drop (m + 8 - j)).take j) := by
  intro j
  induction j with
  | zero => intro _; rw [List.take_zero]; rfl
  | succ j ih =>
    intro hj
    rw [lowN_drop _ _ _ (by omega), show m + 8 - (j + 1) = m + (7 - j) by omega, show m + (7 - j) + 1 = m + 8 - j by omega, ← ih (by omega)]
    simp only [hwTo]
    omega
theorem hwTo_lt (p : List UInt8) (m : Nat) (hm : m + 8 ≤ p.length) (j : Nat) (hj : j ≤ 8) : hwTo p m j < 256 ^ j := by
  rw [hwTo_eq p m hm j hj]
  refine Nat.lt_of_lt_of_le (Kec.lowN_lt _) (Nat.pow_le_pow_right (by omega) ?_)
  rw [List.length_take]
  omega
theorem hwTo_word (p : List UInt8) (c i : Nat) (hm : 136 * c + 8 * i + 8 ≤ p.length) : hwTo p (136 * c + 8 * i) 8 = Kec.word p c i := by
  rw [hwTo_eq p _ hm 8 (by omega)]
  rfl

/-- One byte more, behind the others. -/
theorem wpList_append_byte {ops : Array Oper} {rest : List Oper} {o : Oper} {a : Act} {w : World} {Q : Exit → Act → World → Prop} (hgd : o.guard = none) (s x : Operand)
    (ho : o.op = .call { callee := .builtin .append, args := #[s, x], argTypes := #[27, 27] }) (base n : Nat) (v : Value) (l : List UInt8) (hs : a.eval s = v) (hown : Sl w base 5 1 v n (bytesV l))
    (g u : Nat) (hx : a.eval x = .slice (some ⟨g, 0, none⟩) 1 1) (hg : Holds_ w g 5 #[.int .u8 ((u : Nat) : Int)]) (b : UInt8) (hu : u = b.toNat) (hn : n ≤ 100000) (hbase : base ≤ w.heap.size)
    (h : ∀ v' w', Sl w' base 5 1 v' (n + 1) (bytesV (l ++ [b])) → Below base w w' → wpList Tryd.prog ops Q rest (a.put o.dst v') w') : wpList Tryd.prog ops Q (o :: rest) a w := by
  obtain ⟨i0, hi, hz0, hz1, hz2⟩ := info_parts info5
  obtain ⟨v', w', r1, r2, r3, _⟩ := run_append_Sl (P := Tryd.prog) w base 27 o.type 5 i0 (.int .u8 0) 1 1 Tryd.underlying27 hi hz0 hz1 hz2 rfl (by decide) v n (bytesV l) hown ⟨g, 0, none⟩ 1 1 [.int .u8 ((u : Nat) : Int)] rfl (one_at hg) (one_ok rfl) (by unfold maxLen; omega) (by omega) hbase
  have hb : Below base w w' := (Below.refl base w).grown r3 hbase (fun k e => (Sl.lt hown k e).1)
  have hB : Sl w' base 5 1 v' (n + 1) (bytesV (l ++ [b])) := by
    rw [bytesV_append]
    rw [hu] at r2
    exact r2
  exact wpList_plain hgd fun _ hK => by
    unfold Oper.wp execOp
    simp only [ho, resolve, invoke, builtin, Sem.run_bind, Sem.run_pure, Result.andThen_ok, List.map_toArray, List.map_cons, List.map_nil, hs, hx, r1]
    exact hK _ _ (h v' w' hB hb)
def outTk (a : Nat → Nat) (n : Nat) : List UInt8 := (List.range n).map (Kec.outByte a)
theorem outTk_succ (a : Nat → Nat) (n : Nat) : outTk a (n + 1) = outTk a n ++ [Kec.outByte a n] := by simp [outTk, List.range_succ]

set_option maxRecDepth 100000 in
set_option maxHeartbeats 4000000 in
theorem rhash_str (l : List UInt8) (hl : l.length ≤ 1048576) (w : World) :
    Calls Tryd.prog 29 #[.string (str l)] w fun e W' => e = .returned (.string (str (Kec.sumL l))) ∧ Below w.heap.size w W' := by
  have hpf := Kec.padL_full l
  have hsum : Kec.sumL l = Kec.outL (Kec.absL (Kec.padL l) (List.range ((Kec.padL l).length / 136))) := rfl
  have hpd := rpad_str l hl w
  generalize Kec.padL l = p at *
  obtain ⟨q, hq⟩ : ∃ q, l.length / 136 + 1 = q := ⟨_, rfl⟩
  rw [hq] at hpf
  have hq2 : p.length / 136 = q := by omega
  have hql : q ≤ 8000 := by omega
  rw [hq2] at hsum
  rw [hsum]
  have hsz : (str p).size = p.length := rfl
  clear hsum hq hq2
  go_enter Tryd.func29, Tryd.ntmps29
  go_wp2_with fail
  refine hpd.mono ?_
  rintro e w1 ⟨rfl, hB1⟩
  clear hpd
  have hA0 := Holds_.new w1 24 (lanesV (Kec.absL p (List.range 0)))
  have hB0 := hB1.alloc hB1.size (.cells (lanesV (Kec.absL p (List.range 0))) 24)
  have hg1 := hB1.size
  go_wp2_with fail
  refine wp_abs (fun W => Holds_ W w1.heap.size 24 (lanesV (Kec.absL p (List.range 0))) ∧ Below w.heap.size w W) ⟨hA0, hB0⟩ ?_
  clear hA0 hB0 hB1
  rintro W0 ⟨hA0, hB0⟩
  generalize w1.heap.size = gA at *
  go_loopw [5] (fun fv wr => ∃ c : Nat, c ≤ q ∧ fv = .int .i64 ((136 * c : Nat) : Int) ∧ Holds_ wr gA 24 (lanesV (Kec.absL p (List.range c))) ∧ Below w.heap.size w wr) (fun fv _ => 136 * q - (intOf fv).toNat)
  case atStart => exact ⟨0, by omega, rfl, hA0, hB0⟩
  case round =>
    clear hA0 hB0
    obtain ⟨c, hc, rfl, hA, hB⟩ := hrel
    obtain ⟨fr, hfr⟩ : ∃ fr, 136 * c = fr := ⟨_, rfl⟩
    rw [hfr]
    by_cases hlt : c < q
    · have j1 : (fr : Int) < (p.length : Int) := by omega
      have hac := Kec.absL_ok p (List.range c)
      have hnx : Kec.absL p (List.range (c + 1)) = Kec.perm (Kec.absTo (Kec.absL p (List.range c)) p c 17) := by rw [List.range_succ, Kec.absL_snoc]; rfl
      generalize Kec.absL p (List.range c) = a at *
      go_wp2_with fail
      go_loopw [6] (fun iv wq => ∃ i : Nat, i ≤ 17 ∧ iv = .int .i64 i ∧ Holds_ wq gA 24 (lanesV (Kec.absTo a p c i)) ∧ Below w.heap.size w wq) (fun iv _ => 17 - (intOf iv).toNat)
      case atStart => exact ⟨0, by omega, rfl, hA, hB⟩
      case round =>
        clear hA hB
        obtain ⟨i, hi, rfl, hA, hB⟩ := hrel
        by_cases hlt2 : i < 17
        · have j2 : (i : Int) < 17 := by omega
          have hm8 : 136 * c + 8 * i + 8 ≤ p.length := by omega
          have hword := hwTo_word p c i hm8
          have hwl := hwTo_lt p (136 * c + 8 * i) hm8
          obtain ⟨m, hm⟩ : ∃ m, 136 * c + 8 * i = m := ⟨_, rfl⟩
          rw [hm] at hword hwl hm8
          have i1 : (fr : Int) + 8 * (i : Int) = (m : Int) := by omega
          have hfrl : (fr : Int) ≤ 2000000 := by omega
          have hml : (m : Int) ≤ 2000000 := by omega
          go_wp2_with fail
          go_loopw [7, 8] (fun nv kv wq => ∃ j : Nat, j ≤ 8 ∧ kv = .int .i64 (7 - (j : Int)) ∧ nv = .int .u64 ((hwTo p m j : Nat) : Int) ∧ Holds_ wq gA 24 (lanesV (Kec.absTo a p c i)) ∧ Below w.heap.size w wq) (fun _ kv _ => (intOf kv + 1).toNat)
          case atStart => exact ⟨0, by omega, rfl, rfl, hA, hB⟩
          case round =>
            clear hA hB
            obtain ⟨j, hj, rfl, rfl, hA, hB⟩ := hrel
            have hwlj := hwl j hj
            by_cases hlt3 : j < 8
            · obtain ⟨k, hk⟩ : ∃ k, 7 - j = k := ⟨_, rfl⟩
              have hki : (7 : Int) - (j : Int) = (k : Int) := by omega
              rw [hki]
              obtain ⟨x, hx⟩ : ∃ x, m + k = x := ⟨_, rfl⟩
              have i2 : (m : Int) + (k : Int) = (x : Int) := by omega
              have hnxt : hwTo p m (j + 1) = 256 * hwTo p m j + (p.getD x 0).toNat := by rw [hwTo, hk, hx]
              have hpw : 256 ^ j ≤ 256 ^ 7 := Nat.pow_le_pow_right (by omega) (by omega)
              have hn56 : hwTo p m j < 72057594037927936 := Nat.lt_of_lt_of_le hwlj hpw
              have x1 : x < (str p).size := by rw [hsz]; omega
              have e1 : (((str p)[x]'x1).toNat : Int) = ((p.getD x 0).toNat : Int) := by rw [str_getD p x x1]
              have hbl : (p.getD x 0).toNat < 256 := UInt8.toNat_lt _
              generalize (p.getD x 0).toNat = b at *
              generalize hwTo p m j = n at *
              have k0 : (0 : Int) ≤ (k : Int) := by omega
              have k7 : (k : Int) ≤ 7 := by omega
              have xl : (x : Int) < (p.length : Int) := by omega
              have bi : (b : Int) < 256 := by omega
              have ni : (n : Int) < 72057594037927936 := by omega
              clear hwlj hpw hx hm
              go_wp2_with fail
              go_roundw
              case rel => exact ⟨j + 1, by omega, by rw [← hki]; first | done | go_num, by rw [hnxt]; go_num, hA, hB⟩
              case measure => simp [intOf] <;> omega
            · obtain rfl : j = 8 := by omega
              rw [hword]
              have hwd := Kec.word_lt p c i
              have hac2 := Kec.absTo_ok a p c i hac i (by omega)
              have c1 : wr.cell? ⟨gA, i, none⟩ = some (.int .u64 (Kec.absTo a p c i i : Nat)) := (hA.cell _).trans (row_get _ _ _ _ (by omega))
              have f1 := hA.free i
              have j3 : (i : Int) < 25 := by omega
              have hx := u64_xor_nat (Kec.absTo a p c i i) (Kec.word p c i) hac2 hwd
              have hAn := hA.put i (.int .u64 ((Kec.absTo a p c i i ^^^ Kec.word p c i : Nat) : Int))
              rw [lanes_put _ _ _ (by omega)] at hAn
              change Holds_ _ _ _ (lanesV (Kec.absTo a p c (i + 1))) at hAn
              have hBn := hB.setCell (p := ⟨gA, i, none⟩) hg1 (.int .u64 ((Kec.absTo a p c i i ^^^ Kec.word p c i : Nat) : Int))
              generalize Kec.absTo a p c i i = y at *
              generalize Kec.word p c i = z at *
              clear hA hB hwl hwlj hword
              go_wp2_with fail
              go_roundw
              case rel => exact ⟨i + 1, by omega, by go_num, hAn, hBn⟩
              case measure => simp [intOf]; omega
        · obtain rfl : i = 17 := by omega
          have hok := Kec.absTo_ok a p c 17 hac
          have hpm := rpermute_any (Kec.absTo a p c 17) hok wr
          rw [lanes_congr (fun j hj => permB_eq _ hok j hj), ← hnx] at hpm
          generalize hga2 : Kec.absL p (List.range (c + 1)) = a2 at *
          generalize Kec.absTo a p c 17 = a1 at *
          have HG := Lib.hid hga2
          clear hnx hok hac hga2
          go_wp2_with ((with_reducible show wpList _ _ _ (⟨some 48, _, _, _, _, _⟩ :: _) _ _); go_loud (refine wpList_loadRow rfl 24 _ rfl gA rfl 24 _ _ hA Tryd.underlying24 rfl (by rw [row_size]; exact info24) ?_))
          refine hpm.mono ?_
          rintro e w3 ⟨rfl, hb3⟩
          have hA3 := hA.below hb3 hA.lt
          have hB3 := hB.trans (hb3.mono hB.size)
          clear hA hB hb3 hpm
          go_wp2_with ((with_reducible show wpList _ _ _ (⟨none, _, _, _, _, _⟩ :: _) _ _); go_loud (refine wpList_storeRow rfl 24 _ _ rfl gA _ rfl rfl 24 _ hA3 (by rw [row_size]; exact info24) (by simp [row_size]) (row_one _ _ _) ?_))
          have hA4 := hA3.putRow (lanesV a2)
          have hB4 := below_putRow hB3 hg1 (lanesV a2)
          have hfrl : (fr : Int) ≤ 2000000 := by omega
          clear hA3 hB3
          go_wp2_with fail
          go_roundw
          case rel => exact ⟨c + 1, by omega, by rw [show 136 * (c + 1) = fr + 136 by omega]; go_num, by rw [HG.out]; exact hA4, hB4⟩
          case measure => simp [intOf]; omega
    · have hcq : c = q := by omega
      rw [hcq] at hA
      have j1 : ¬ (fr : Int) < (p.length : Int) := by omega
      have hok := Kec.absL_ok p (List.range q)
      generalize hga : Kec.absL p (List.range q) = a at *
      have HG := Lib.hid hga
      clear hga
      have hlA := hA.lt
      have hS0 : Sl wr (gA + 1) 5 1 (.slice none 0 0) 0 (bytesV (outTk a 0)) := Sl.nil_ _ _ _ _
      clear hfr hcq hpf hlt hc
      go_wp2_with fail
      go_loopw [9, 10] (fun ov iv wq => ∃ i : Nat, i ≤ 4 ∧ iv = .int .i64 i ∧ Sl wq (gA + 1) 5 1 ov (8 * i) (bytesV (outTk a (8 * i))) ∧ Holds_ wq gA 24 (lanesV a) ∧ Below w.heap.size w wq ∧ gA + 1 ≤ wq.heap.size) (fun _ iv _ => 4 - (intOf iv).toNat)
      case atStart => exact ⟨0, by omega, rfl, hS0, hA, hB, hlA⟩
      case round =>
        clear hS0 hA hB hlA
        obtain ⟨i, hi, rfl, hS, hA, hB, hlA⟩ := hrel
        by_cases hlt : i < 4
        · have j2 : (i : Int) < 4 := by omega
          have c0 : wr.cell? ⟨gA, i, none⟩ = some (.int .u64 (a i : Nat)) := (hA.cell _).trans (row_get _ _ _ _ (by omega))
          have j3 : (i : Int) < 25 := by omega
          go_wp2_with fail
          clear c0
          go_loopw [9, 11, 12] (fun ov nv kv wq => ∃ k : Nat, k ≤ 8 ∧ kv = .int .i64 k ∧ nv = .int .u64 ((a i / 256 ^ k : Nat) : Int) ∧ Sl wq (gA + 1) 5 1 ov (8 * i + k) (bytesV (outTk a (8 * i + k))) ∧ Holds_ wq gA 24 (lanesV a) ∧ Below w.heap.size w wq ∧ gA + 1 ≤ wq.heap.size) (fun _ _ kv _ => 8 - (intOf kv).toNat)
          case atStart => exact ⟨0, by omega, rfl, by simp, hS, hA, hB, hlA⟩
          case round =>
            clear hS hA hB hlA
            obtain ⟨k, hk, rfl, rfl, hS, hA, hB, hlA⟩ := hrel
            by_cases hlt2 : k < 8
            · have j4 : (k : Int) < 8 := by omega
              obtain ⟨x, hx⟩ : ∃ x, a i / 256 ^ k = x := ⟨_, rfl⟩
              have hxl : x < 2 ^ 64 := by rw [← hx]; exact Nat.lt_of_le_of_lt (Nat.div_le_self _ _) (hok i (by omega))
              obtain ⟨u, hu⟩ : ∃ u, x % 256 = u := ⟨_, rfl⟩
              obtain ⟨x2, hx2⟩ : ∃ u, x / 256 = u := ⟨_, rfl⟩
              have hcu : (Kec.outByte a (8 * i + k)).toNat = u := by
                have e : (Kec.outByte a (8 * i + k)).toNat = a ((8 * i + k) / 8) / 2 ^ (8 * ((8 * i + k) % 8)) % 256 := by simp [Kec.outByte]
                rw [e, show (8 * i + k) / 8 = i by omega, show (8 * i + k) % 8 = k by omega, Nat.pow_mul, show 2 ^ 8 = 256 from rfl, hx, hu]
              have hxn : a i / 256 ^ (k + 1) = x2 := by rw [Nat.pow_succ, ← Nat.div_div_eq_div_mul, hx, hx2]
              rw [hx]
              have b1 : (x : Int) < 18446744073709551616 := by omega
              have i1 : (x : Int).tmod 256 = (u : Int) := by rw [← hu]; rfl
              have i2 : (x : Int) % 256 = (u : Int) := by omega
              have i3 : (x : Int).tdiv 256 = (x2 : Int) := by rw [← hx2]; rfl
              have i4 : (x : Int) / 256 = (x2 : Int) := by omega
              have b2 : (u : Int) < 256 := by omega
              have b3 : (x2 : Int) < 18446744073709551616 := by omega
              have hsucc := outTk_succ a (8 * i + k)
              have HS := Lib.hid hsucc
              have HX := Lib.hid hxn
              clear hx hu hx2 hsucc hxn
              go_wp2_with (at_builtin; go_loud (refine wpList_append_byte rfl _ _ rfl (gA + 1) (8 * i + k) _ (outTk a (8 * i + k)) rfl (hS.alloc _) wr.heap.size u rfl (Holds_.new wr 5 _) (Kec.outByte a (8 * i + k)) hcu.symm (by omega) ?d1 ?_))
              case d1 => simp; omega
              intro v' w' hS' hb'
              have hb2 : Below (gA + 1) wr w' := ((Below.refl _ _).alloc hlA _).trans hb'
              have hB' : Below w.heap.size w w' := hB.trans (hb2.mono (by omega))
              have hA' := hA.below hb2 (by omega)
              have hl' : gA + 1 ≤ w'.heap.size := Nat.le_trans hlA hb2.size
              go_wp2_with fail
              go_roundw
              case rel => exact ⟨k + 1, by omega, by go_num, by rw [HX.out], by rw [show 8 * i + (k + 1) = 8 * i + k + 1 by omega, HS.out]; exact hS', hA', hB', hl'⟩
              case measure => simp [intOf]; omega
            · obtain rfl : k = 8 := by omega
              go_wp2_with fail
              go_roundw
              case rel => exact ⟨i + 1, by omega, by go_num, hS, hA, hB, hlA⟩
              case measure => simp [intOf]; omega
        · obtain rfl : i = 4 := by omega
          have hback := run_string_of_Sl (P := Tryd.prog) 27 9 5 Tryd.underlying27 Tryd.underlying5 Tryd.underlying9 hS
          have hout : outTk a (8 * 4) = Kec.outL a := rfl
          rw [hout] at hback
          go_wp2_with fail
          go_ret
          exact ⟨by rw [HG.out]; rfl, hB⟩

set_option maxHeartbeats 1000000 in
theorem rsum_str (l : List UInt8) (hl : l.length ≤ 1048576) (w : World) :
    Calls Tryd.prog 15 #[.string (str l)] w fun e W' => e = .returned (.tuple #[.string (str (Kec.sumL l)), .int .i64 0]) ∧ Below w.heap.size w W' := by
  have hsz : (str l).size = l.length := rfl
  have hh := rhash_str l hl w
  have j1 : ¬ (1048576 : Int) < (l.length : Int) := by omega
  generalize str (Kec.sumL l) = h at *
  go_enter Tryd.func15, Tryd.ntmps15
  go_wp2_with fail
  refine hh.mono ?_
  rintro e w1 ⟨rfl, hb⟩
  go_wp2_with fail
  go_ret2
  exact ⟨rfl, hb⟩
end Go.Proofs.YtblfodhbimgonaaDoor
