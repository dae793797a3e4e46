/- The document's rcs, by its walk. -/
import Derived.Test.YtblfodhbimgonaaDoorBd
namespace Go.Proofs.YtblfodhbimgonaaDoor
open Go.RowKit Go.Shelf
set_option linter.unusedVariables false
set_option linter.unusedSimpArgs false

theorem wpList_append_oneG {ops : Array Oper} {rest : List Oper} {o : Oper} {a : Act} {w : World} {Q : Exit → Act → World → Prop} (hgd : o.guard = none) (s x : Operand)
    (ho : o.op = .call { callee := .builtin .append, args := #[s, x], argTypes := #[41, 41] }) (base n : Nat) (v : Value) (f : Nat → Nat) (hs : a.eval s = v) (hown : Bi w base v n f)
    (g u : Nat) (hx : a.eval x = .slice (some ⟨g, 0, none⟩) 1 1) (hg : Holds_ w g 3 #[.int .i64 ((u : Nat) : Int)]) (hu : u = f n) (hn : n ≤ 100000) (hbase : base ≤ w.heap.size)
    (h : ∀ v' w', Bi w' base v' (n + 1) f → Below base w w' → w.grownBy w' v.ownBlock → (v'.ownBlock = v.ownBlock ∨ v'.ownBlock = some w.heap.size) → wpList Tryd.prog ops Q rest (a.put o.dst v') w') : wpList Tryd.prog ops Q (o :: rest) a w := by
  obtain ⟨i0, hi, hz0, hz1, hz2⟩ := info_parts info3
  obtain ⟨v', w', r1, r2, r3, r4⟩ := run_append_Sl (P := Tryd.prog) w base 41 o.type 3 i0 (.int .i64 0) 1 8 Tryd.underlying41 hi hz0 hz1 hz2 rfl (by decide) v n (rl n f) hown ⟨g, 0, none⟩ 1 1 [.int .i64 ((u : Nat) : Int)] rfl (one_at hg) (one_ok rfl) (by unfold maxLen; omega) (by omega) hbase
  have hb : Below base w w' := (Below.refl base w).grown r3 hbase (fun k e => (Sl.lt hown k e).1)
  have hB : Bi w' base v' (n + 1) f := by
    unfold Bi
    rw [rl_succ, ← hu]
    exact r2
  exact wpList_plain hgd fun _ hK => by
    unfold Oper.wp execOp
    simp only [ho, resolve, invoke, builtin, Sem.run_bind, Sem.run_pure, Result.andThen_ok, List.map_toArray, List.map_cons, List.map_nil, hs, hx, r1]
    exact hK _ _ (h v' w' hB hb r3 r4)
theorem Bi.cut {w : World} {base n g c k : Nat} {f : Nat → Nat} (h : Bi w base (.slice (some ⟨g, 0, none⟩) n c) n f) (hk : k ≤ n) : Bi w base (.slice (some ⟨g, 0, none⟩) k c) k f := by
  refine ⟨by rw [rl_length, Nat.mul_one], ?_⟩
  rcases h.2 with ⟨h0, _⟩ | ⟨g', cap', cur, fr, h1, h2, h3, h4, h5, h6, h7, h8⟩
  · cases h0
  · cases h1
    refine .inr ⟨g, c, cur, fr, rfl, h2, h3, h4, by omega, h6, h7, ?_⟩
    rw [Nat.mul_one] at h8 ⊢
    have h9 := congrArg (List.take k) h8
    rw [List.take_take, Nat.min_eq_left hk] at h9
    rw [h9]
    unfold rl
    rw [← List.map_take, List.take_range, Nat.min_eq_left hk]
theorem Bi.drew {w : World} {base n : Nat} {v : Value} {f : Nat → Nat} (h : Bi w base v n f) : Bi w.drew base v n f := h
theorem Bi.holds {W : World} {g n : Nat} {f : Nat → Nat} {cs : Array Value} (h : Holds_ W g 3 cs) (hcs : cs.toList = rl n f) (hn : n ≤ 100000) : Bi W g (.slice (some ⟨g, 0, none⟩) n n) n f := by
  have hs : cs.size = n := by rw [← Array.length_toList, hcs, rl_length]
  refine ⟨by rw [rl_length, Nat.mul_one], .inr ⟨g, n, cs, (0, 0), rfl, Nat.le_refl _, h, .inr rfl, Nat.le_refl _, by unfold maxLen; omega, by rw [hs, Nat.mul_one], ?_⟩⟩
  rw [hcs]
  exact List.take_of_length_le (by rw [rl_length, Nat.mul_one]; exact Nat.le_refl _)

/-- One step of the register: what stands in its nine places behind each store. -/
def rcN0 (r : Nat → Nat) : Nat → Nat := joinF 1 (fun _ => 0) r
def rcPut (n : Nat → Nat) (k : Nat) : Nat → Nat := Kec.upd n k ((n k + n 8) % 2)
def rcStep (r : Nat → Nat) : Nat → Nat := rcPut (rcPut (rcPut (rcPut (rcN0 r) 0) 4) 5) 6
def rcR : Nat → Nat → Nat
  | 0 => fun i => if i = 0 then 1 else 0
  | t + 1 => rcStep (rcR t)
theorem rcPut_lt (n : Nat → Nat) (k : Nat) (h : ∀ i, i < 9 → n i < 2) : ∀ i, i < 9 → rcPut n k i < 2 := by
  intro i hi
  unfold rcPut Kec.upd
  split
  · exact Nat.mod_lt _ (by omega)
  · exact h i hi
theorem rcN0_lt (r : Nat → Nat) (h : ∀ i, i < 8 → r i < 2) : ∀ i, i < 9 → rcN0 r i < 2 := by
  intro i hi
  unfold rcN0 joinF
  split
  · exact (by decide : (0 : Nat) < 2)
  · exact h _ (by omega)
theorem rcR_lt (t : Nat) : ∀ i, i < 8 → rcR t i < 2 := by
  induction t with
  | zero => intro i _; unfold rcR; split <;> omega
  | succ t ih =>
    intro i hi
    exact rcPut_lt _ _ (rcPut_lt _ _ (rcPut_lt _ _ (rcPut_lt _ _ (rcN0_lt _ ih)))) i (by omega)
def rcO (k : Nat) : Nat := rcR k 0

set_option maxRecDepth 100000 in
set_option maxHeartbeats 4000000 in
theorem rcs_any (m : Nat) (hm : m ≤ 1000) (w : World) :
    Calls Tryd.prog 22 #[.int .i64 (m : Int)] w fun e W' => ∃ v', e = .returned v' ∧ Bi W' w.heap.size v' m rcO ∧ Below w.heap.size w W' := by
  have hR0 : Bi (w.alloc (.cells #[.int .i64 1, .int .i64 0, .int .i64 0, .int .i64 0, .int .i64 0, .int .i64 0, .int .i64 0, .int .i64 0] 3)) w.heap.size (.slice (some ⟨w.heap.size, 0, none⟩) 8 8) 8 (rcR 0) := Bi.holds (Holds_.new _ _ _) rfl (by decide)
  have hB0 := (Below.refl w.heap.size w).alloc (Nat.le_refl _) (.cells #[.int .i64 1, .int .i64 0, .int .i64 0, .int .i64 0, .int .i64 0, .int .i64 0, .int .i64 0, .int .i64 0] 3)
  have hN := Bi.nil_ (w.alloc (.cells #[.int .i64 1, .int .i64 0, .int .i64 0, .int .i64 0, .int .i64 0, .int .i64 0, .int .i64 0, .int .i64 0] 3)) w.heap.size rcO
  go_enter Tryd.func22, Tryd.ntmps22
  go_wp2_with fail
  generalize (w.alloc (.cells #[.int .i64 1, .int .i64 0, .int .i64 0, .int .i64 0, .int .i64 0, .int .i64 0, .int .i64 0, .int .i64 0] 3)) = w0 at *
  go_loopw [3, 4, 5] (fun rv ov tv wr => ∃ t gr cr : Nat, t ≤ m ∧ tv = .int .i64 t ∧ rv = .slice (some ⟨gr, 0, none⟩) 8 cr ∧ ov.ownBlock ≠ some gr ∧ Bi wr w.heap.size (.slice (some ⟨gr, 0, none⟩) 8 cr) 8 (rcR t) ∧ Bi wr w.heap.size ov t rcO ∧ Below w.heap.size w wr) (fun _ _ tv _ => m - (intOf tv).toNat)
  case atStart => exact ⟨0, _, _, by omega, rfl, rfl, by simp [Value.ownBlock], hR0, hN, hB0⟩
  case round =>
    clear hN hR0 hB0
    obtain ⟨t, gr, cr, ht, rfl, rfl, hne, hR, hO, hB⟩ := hrel
    by_cases hlt : t < m
    · have j1 : (t : Int) < (m : Int) := by omega
      have c0 := hR.cell 0 (by omega)
      have hru : rcO t = rcR t 0 := rfl
      have hbs := hB.size
      have hgr : gr < wr.heap.size := (Sl.lt hR gr rfl).2
      have hrl := rcR_lt t
      have hstep : rcR (t + 1) = rcPut (rcPut (rcPut (rcPut (rcN0 (rcR t)) 0) 4) 5) 6 := rfl
      obtain ⟨u, hu⟩ : ∃ u, rcR t 0 = u := ⟨_, rfl⟩
      rw [hu] at c0 hru
      go_wp2_with (at_builtin; refine wpList_append_oneG rfl _ _ rfl w.heap.size t _ rcO rfl (hO.alloc _) wr.heap.size u rfl (Holds_.new wr 3 _) hru.symm (by omega) ?d1 ?_)
      case d1 => simp; omega
      intro vo w1 hO1 hb1 hg1 hv1
      have hR1 : Bi w1 w.heap.size (.slice (some ⟨gr, 0, none⟩) 8 cr) 8 (rcR t) := Sl.kept (hR.alloc _) hg1 (.inr (fun e => hne e.symm))
      have hne1 : vo.ownBlock ≠ some gr := by
        rcases hv1 with e | e
        · rw [e]; exact hne
        · rw [e]; simp; omega
      have hB1 : Below w.heap.size w w1 := (hB.alloc hbs _).trans hb1
      have hz : Bi (w1.alloc (.cells #[.int .i64 0] 3)) w1.heap.size (.slice (some ⟨w1.heap.size, 0, none⟩) 1 1) 1 (fun _ => 0) := Bi.holds (Holds_.new _ _ _) rfl (by decide)
      have hb1s := hB1.size
      clear hR hO hb1 hg1 hv1 hB c0 hne hru
      go_wp2_with (at_builtin; refine wpList_append_Bi rfl _ _ rfl w1.heap.size 1 _ (fun _ => 0) rfl hz w.heap.size gr 8 cr (rcR t) rfl (hR1.alloc _) (by omega) ?d2 ?_)
      case d2 => simp
      intro vn w2 hN hb2
      obtain ⟨gn, cn, rfl, hgn, _, hcn, _⟩ := Sl.form hN (by omega)
      have hb2' : Below w1.heap.size w1 w2 := ((Below.refl _ _).alloc (Nat.le_refl _) _).trans hb2
      have hO2 := Bi.later hO1 hb2'
      have hB2 := hB1.trans (hb2'.mono hb1s)
      have hne2 : vo.ownBlock ≠ some gn := fun e => by have := (Sl.lt hO1 gn e).2; omega
      have hN : Bi w2 w1.heap.size (.slice (some ⟨gn, 0, none⟩) 9 cn) 9 (rcN0 (rcR t)) := hN
      have hnl := rcN0_lt _ hrl
      have hcn8 : (8 : Int) ≤ (cn : Int) := by omega
      have hgw : w.heap.size ≤ gn := by omega
      clear hz hO1 hb2 hb2' hB1 hR1 hrl
      generalize rcN0 (rcR t) = n0 at *
      have c1 := hN.cell 0 (by omega)
      have c2 := hN.cell 8 (by omega)
      have f1 := hN.free 0 (by omega)
      have l1 := hnl 0 (by omega)
      have l2 := hnl 8 (by omega)
      have hnl := rcPut_lt _ 0 hnl
      have hNn := hN.put 0 ((n0 0 + n0 8) % 2)
      change Bi _ _ _ 9 (rcPut n0 0) at hNn
      have hBn := hB2.setCell (p := ⟨gn, 0, none⟩) hgw (.int .i64 (((n0 0 + n0 8) % 2 : Nat) : Int))
      have hOn : Bi (w2.setCell ⟨gn, 0, none⟩ (.int .i64 (((n0 0 + n0 8) % 2 : Nat) : Int))) w.heap.size vo (t + 1) rcO := Sl.far hO2 hne2 _
      have hst2 : rcPut n0 0 = rcPut n0 0 := rfl
      generalize rcPut n0 0 = n1 at *
      generalize n0 0 = q at *
      generalize n0 8 = q8 at *
      obtain ⟨s, hs⟩ : ∃ s, q + q8 = s := ⟨_, rfl⟩
      obtain ⟨t1, ht1⟩ : ∃ t1, s % 2 = t1 := ⟨_, rfl⟩
      rw [hs, ht1] at hNn hBn hOn
      have k1 : IntKind.i64.wrap ((q : Int) + (q8 : Int)) = (s : Int) := (IntWalk.i64_in _ (by omega)).trans (by omega)
      have k2 : (s : Int).tmod 2 = (t1 : Int) := by rw [← ht1]; rfl
      clear hN hB2 hO2 hs ht1 l1 l2 hst2
      go_wp2_with fail
      refine wp_region_still_tail 10 (by kernel_rfl) (by kernel_rfl) ?_
      simp only [List.take_succ_cons, List.take_zero, List.drop_succ_cons, List.drop_zero]
      repeat still_step
      refine wpStill_nil ?_
      clear c2 k1 k2
      go_wp2_with fail
      refine wp_abs (fun W => Bi W w1.heap.size (.slice (some ⟨gn, 0, none⟩) 9 cn) 9 n1 ∧ Bi W w.heap.size vo (t + 1) rcO ∧ Below w.heap.size w W) ⟨hNn.drew, hOn.drew, hBn.drew⟩ ?_
      clear hNn hOn hBn c1 f1
      rintro w2 ⟨hN, hO2, hB2⟩
      have c1 := hN.cell 4 (by omega)
      have c2 := hN.cell 8 (by omega)
      have f1 := hN.free 4 (by omega)
      have l1 := hnl 4 (by omega)
      have l2 := hnl 8 (by omega)
      have hnl := rcPut_lt _ 4 hnl
      have hNn := hN.put 4 ((n1 4 + n1 8) % 2)
      change Bi _ _ _ 9 (rcPut n1 4) at hNn
      have hBn := hB2.setCell (p := ⟨gn, 4, none⟩) hgw (.int .i64 (((n1 4 + n1 8) % 2 : Nat) : Int))
      have hOn : Bi (w2.setCell ⟨gn, 4, none⟩ (.int .i64 (((n1 4 + n1 8) % 2 : Nat) : Int))) w.heap.size vo (t + 1) rcO := Sl.far hO2 hne2 _
      have hst2 : rcPut n1 4 = rcPut n1 4 := rfl
      generalize rcPut n1 4 = n2 at *
      generalize n1 4 = q at *
      generalize n1 8 = q8 at *
      obtain ⟨s, hs⟩ : ∃ s, q + q8 = s := ⟨_, rfl⟩
      obtain ⟨t1, ht1⟩ : ∃ t1, s % 2 = t1 := ⟨_, rfl⟩
      rw [hs, ht1] at hNn hBn hOn
      have k1 : IntKind.i64.wrap ((q : Int) + (q8 : Int)) = (s : Int) := (IntWalk.i64_in _ (by omega)).trans (by omega)
      have k2 : (s : Int).tmod 2 = (t1 : Int) := by rw [← ht1]; rfl
      clear hN hB2 hO2 hs ht1 l1 l2 hst2
      go_wp2_with fail
      refine wp_region_still_tail 10 (by kernel_rfl) (by kernel_rfl) ?_
      simp only [List.take_succ_cons, List.take_zero, List.drop_succ_cons, List.drop_zero]
      repeat still_step
      refine wpStill_nil ?_
      clear c2 k1 k2
      go_wp2_with fail
      refine wp_abs (fun W => Bi W w1.heap.size (.slice (some ⟨gn, 0, none⟩) 9 cn) 9 n2 ∧ Bi W w.heap.size vo (t + 1) rcO ∧ Below w.heap.size w W) ⟨hNn.drew, hOn.drew, hBn.drew⟩ ?_
      clear hNn hOn hBn c1 f1
      rintro w2 ⟨hN, hO2, hB2⟩
      have c1 := hN.cell 5 (by omega)
      have c2 := hN.cell 8 (by omega)
      have f1 := hN.free 5 (by omega)
      have l1 := hnl 5 (by omega)
      have l2 := hnl 8 (by omega)
      have hnl := rcPut_lt _ 5 hnl
      have hNn := hN.put 5 ((n2 5 + n2 8) % 2)
      change Bi _ _ _ 9 (rcPut n2 5) at hNn
      have hBn := hB2.setCell (p := ⟨gn, 5, none⟩) hgw (.int .i64 (((n2 5 + n2 8) % 2 : Nat) : Int))
      have hOn : Bi (w2.setCell ⟨gn, 5, none⟩ (.int .i64 (((n2 5 + n2 8) % 2 : Nat) : Int))) w.heap.size vo (t + 1) rcO := Sl.far hO2 hne2 _
      have hst2 : rcPut n2 5 = rcPut n2 5 := rfl
      generalize rcPut n2 5 = n3 at *
      generalize n2 5 = q at *
      generalize n2 8 = q8 at *
      obtain ⟨s, hs⟩ : ∃ s, q + q8 = s := ⟨_, rfl⟩
      obtain ⟨t1, ht1⟩ : ∃ t1, s % 2 = t1 := ⟨_, rfl⟩
      rw [hs, ht1] at hNn hBn hOn
      have k1 : IntKind.i64.wrap ((q : Int) + (q8 : Int)) = (s : Int) := (IntWalk.i64_in _ (by omega)).trans (by omega)
      have k2 : (s : Int).tmod 2 = (t1 : Int) := by rw [← ht1]; rfl
      clear hN hB2 hO2 hs ht1 l1 l2 hst2
      go_wp2_with fail
      refine wp_region_still_tail 10 (by kernel_rfl) (by kernel_rfl) ?_
      simp only [List.take_succ_cons, List.take_zero, List.drop_succ_cons, List.drop_zero]
      repeat still_step
      refine wpStill_nil ?_
      clear c2 k1 k2
      go_wp2_with fail
      refine wp_abs (fun W => Bi W w1.heap.size (.slice (some ⟨gn, 0, none⟩) 9 cn) 9 n3 ∧ Bi W w.heap.size vo (t + 1) rcO ∧ Below w.heap.size w W) ⟨hNn.drew, hOn.drew, hBn.drew⟩ ?_
      clear hNn hOn hBn c1 f1
      rintro w2 ⟨hN, hO2, hB2⟩
      have c1 := hN.cell 6 (by omega)
      have c2 := hN.cell 8 (by omega)
      have f1 := hN.free 6 (by omega)
      have l1 := hnl 6 (by omega)
      have l2 := hnl 8 (by omega)
      have hnl := rcPut_lt _ 6 hnl
      have hNn := hN.put 6 ((n3 6 + n3 8) % 2)
      change Bi _ _ _ 9 (rcPut n3 6) at hNn
      have hBn := hB2.setCell (p := ⟨gn, 6, none⟩) hgw (.int .i64 (((n3 6 + n3 8) % 2 : Nat) : Int))
      have hOn : Bi (w2.setCell ⟨gn, 6, none⟩ (.int .i64 (((n3 6 + n3 8) % 2 : Nat) : Int))) w.heap.size vo (t + 1) rcO := Sl.far hO2 hne2 _
      have hst2 : rcPut n3 6 = rcPut n3 6 := rfl
      generalize rcPut n3 6 = n4 at *
      generalize n3 6 = q at *
      generalize n3 8 = q8 at *
      obtain ⟨s, hs⟩ : ∃ s, q + q8 = s := ⟨_, rfl⟩
      obtain ⟨t1, ht1⟩ : ∃ t1, s % 2 = t1 := ⟨_, rfl⟩
      rw [hs, ht1] at hNn hBn hOn
      have k1 : IntKind.i64.wrap ((q : Int) + (q8 : Int)) = (s : Int) := (IntWalk.i64_in _ (by omega)).trans (by omega)
      have k2 : (s : Int).tmod 2 = (t1 : Int) := by rw [← ht1]; rfl
      clear hN hB2 hO2 hs ht1 l1 l2 hst2
      go_wp2_with fail
      refine wp_region_still_tail 10 (by kernel_rfl) (by kernel_rfl) ?_
      simp only [List.take_succ_cons, List.take_zero, List.drop_succ_cons, List.drop_zero]
      repeat still_step
      refine wpStill_nil ?_
      clear c2 k1 k2
      go_wp2_with fail
      have hR := (hNn.drew.cut (show 8 ≤ 9 by omega)).lower hb1s
      rw [← hstep] at hR
      have hOd := hOn.drew
      have hBd := hBn.drew
      go_roundw
      case rel => exact ⟨t + 1, gn, cn, by omega, by go_num, rfl, hne2, hR, hOd, hBd⟩
      case measure => simp [intOf]; omega
    · obtain rfl : t = m := by omega
      go_wp2_with fail
      go_ret
      exact ⟨_, rfl, hO, hB⟩
end Go.Proofs.YtblfodhbimgonaaDoor
