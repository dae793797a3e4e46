/- The document's block, by its walk. -/
import Derived.Test.YtkgbecgdappjoaaDoorNq
import Derived.Test.YtkgbecgdappjoaaDoorNi
import Derived.Test.YtkgbecgdappjoaaDoorQv
namespace Go.Proofs.YtkgbecgdappjoaaDoor
open Go.RowKit Go.Shelf
set_option linter.unusedVariables false
set_option linter.unusedSimpArgs false

theorem str_getD (l : List UInt8) (i : Nat) (h : i < (str l).size) : (str l)[i] = l.getD i 0 := by
  have hk : i < l.length := h
  show l[i]'hk = _
  rw [List.getD_eq_getElem?_getD, List.getElem?_eq_getElem hk]
  rfl
theorem mixN_lt (n x y z : Nat) (sh : Bool) : mixN n x y z sh < 4294967296 := numTo_lt _ (fun i _ => mixB_lt n x y z sh i) 32 (by omega)
theorem pickN_lt (a b c : Nat) : pickN a b c < 4294967296 := numTo_lt _ (fun i _ => pickB_lt a b c i) 32 (by omega)
theorem mostN_lt (a b c : Nat) : mostN a b c < 4294967296 := numTo_lt _ (fun i _ => mostB_lt a b c i) 32 (by omega)
theorem keep_call {w : World} {f : FuncId} {args : Array Value} {v : Value} {C : World → Prop} (hC : ∀ W W', C W → Below W.heap.size W W' → C W') (h : ∀ W, Calls Tryd.prog f args W fun e W' => e = .returned v ∧ Below W.heap.size W W') : ∀ W, C W → Calls Tryd.prog f args W fun e W' => e = .returned v ∧ C W' :=
  fun W hW => (h W).mono fun e W' h => ⟨h.1, hC W W' hW h.2⟩

set_option maxRecDepth 100000 in
set_option maxHeartbeats 4000000 in
theorem rblock_any (b1 gh ch b2 gk ck : Nat) (hf : Nat → Nat) (hh : Sha.Ok 8 hf) (b : List UInt8) (hb : b.length = 64) (w : World)
    (hH : Bi w b1 (.slice (some ⟨gh, 0, none⟩) 8 ch) 8 hf) (hK : Bi w b2 (.slice (some ⟨gk, 0, none⟩) 64 ck) 64 Sha.cF) :
    Calls Tryd.prog 28 #[.slice (some ⟨gh, 0, none⟩) 8 ch, .slice (some ⟨gk, 0, none⟩) 64 ck, .string (str b)] w fun e W' => ∃ v', e = .returned v' ∧ Bi W' w.heap.size v' 8 (Sha.mix hf b) ∧ Below w.heap.size w W' := by
  have hsz : (str b).size = 64 := hb
  have hN := Bi.nil_ w w.heap.size (wF b)
  go_enter Tryd.func28, Tryd.ntmps28
  go_wp2_with fail
  go_loopw [7, 8] (fun ov iv wr => ∃ i : Nat, i ≤ 16 ∧ iv = .int .i64 i ∧ Bi wr w.heap.size ov i (wF b) ∧ Below w.heap.size w wr) (fun _ iv _ => 16 - (intOf iv).toNat)
  case atStart => exact ⟨0, by omega, rfl, hN, Below.refl _ _⟩
  case round =>
    clear hN
    obtain ⟨i, hi, rfl, hO, hB⟩ := hrel
    by_cases hlt : i < 16
    · have j1 : (i : Int) < 16 := by omega
      have hwf := wF_first b hb i hlt
      go_wp2_with fail
      go_loopw [9, 10] (fun nv jv wq => ∃ j : Nat, j ≤ 4 ∧ jv = .int .i64 j ∧ nv = .int .i64 ((hornTo b i j : Nat) : Int) ∧ Bi wq w.heap.size _ i (wF b) ∧ Below w.heap.size w wq) (fun _ jv _ => 4 - (intOf jv).toNat)
      case atStart => exact ⟨0, by omega, rfl, rfl, hO, hB⟩
      case round =>
        clear hO hB
        obtain ⟨j, hj, rfl, rfl, hO, hB⟩ := hrel
        have hhl := hornTo_lt b i j
        by_cases hlt2 : j < 4
        · have j2 : (j : Int) < 4 := by omega
          obtain ⟨x, hx⟩ : ∃ x, 4 * i + j = x := ⟨_, rfl⟩
          have k1 : 4 * (i : Int) + (j : Int) = (x : Int) := by omega
          have x1 : x < (str b).size := by rw [hsz]; omega
          have e1 : (((str b)[x]'x1).toNat : Int) = ((b.getD x 0).toNat : Int) := by rw [str_getD b x x1]
          have hn : hornTo b i (j + 1) = 256 * hornTo b i j + (b.getD x 0).toNat := by rw [hornTo, hx]
          have hnl : hornTo b i j < 16777216 := Nat.lt_of_lt_of_le hhl (Nat.pow_le_pow_right (show 0 < 256 by omega) (show j ≤ 3 by omega))
          have hbl : (b.getD x 0).toNat < 256 := UInt8.toNat_lt _
          generalize (b.getD x 0).toNat = y at *
          generalize hornTo b i j = n at *
          have xl : (x : Int) < 64 := by omega
          have b1 : (n : Int) < 16777216 := by omega
          have b2 : (y : Int) < 256 := by omega
          clear hhl hx hwf
          go_wp2_with fail
          go_roundw
          case rel => exact ⟨j + 1, by omega, by go_num, by rw [hn]; go_num, hO, hB⟩
          case measure => simp [intOf]; omega
        · obtain rfl : j = 4 := by omega
          rw [← hwf] at hhl ⊢
          have hbs := hB.size
          obtain ⟨u, hu⟩ : ∃ u, wF b i = u := ⟨_, rfl⟩
          rw [hu]
          clear hwf hhl
          go_wp2_with (at_builtin; go_loud (refine wpList_append_one rfl _ _ rfl w.heap.size i _ (wF b) rfl (hO.alloc _) wr.heap.size u rfl (Holds_.new wr 3 _) hu.symm (by omega) ?d1 ?_))
          case d1 => simp; omega
          intro v' w' hO' hb'
          have hB' : Below w.heap.size w w' := (hB.alloc hbs _).trans hb'
          go_wp2_with fail
          go_roundw
          case rel => exact ⟨i + 1, by omega, by go_num, hO', hB'⟩
          case measure => simp [intOf]; omega
    · have hi16 : i = 16 := by omega
      rw [hi16] at hO
      have j1 : ¬ (i : Int) < 16 := by omega
      clear hlt hi hi16
      generalize i = ie at *
      go_wp2_with fail
      go_loopw [7, 11] (fun ov iv wr => ∃ i : Nat, 16 ≤ i ∧ i ≤ 64 ∧ iv = .int .i64 i ∧ Bi wr w.heap.size ov i (wF b) ∧ Below w.heap.size w wr) (fun _ iv _ => 64 - (intOf iv).toNat)
      case atStart => exact ⟨16, by omega, by omega, rfl, hO, hB⟩
      case round =>
        clear hO hB
        obtain ⟨i, hi16, hi, rfl, hO, hB⟩ := hrel
        by_cases hlt : i < 64
        · obtain ⟨go, co, rfl, hgo, _, _, _⟩ := Sl.form hO (by omega)
          have j2 : (i : Int) < 64 := by omega
          have hnx := wF_next b i hi16 hlt
          obtain ⟨p16, hp16⟩ : ∃ p, i - 16 = p := ⟨_, rfl⟩
          obtain ⟨p7, hp7⟩ : ∃ p, i - 7 = p := ⟨_, rfl⟩
          obtain ⟨p15, hp15⟩ : ∃ p, i - 15 = p := ⟨_, rfl⟩
          obtain ⟨p2, hp2⟩ : ∃ p, i - 2 = p := ⟨_, rfl⟩
          rw [hp16, hp7, hp15, hp2] at hnx
          have k1 : IntKind.i64.wrap ((i : Int) - 16) = (p16 : Int) := (IntWalk.i64_in _ (by omega)).trans (by omega)
          have k2 : IntKind.i64.wrap ((i : Int) - 7) = (p7 : Int) := (IntWalk.i64_in _ (by omega)).trans (by omega)
          have k3 : IntKind.i64.wrap ((i : Int) - 15) = (p15 : Int) := (IntWalk.i64_in _ (by omega)).trans (by omega)
          have k4 : IntKind.i64.wrap ((i : Int) - 2) = (p2 : Int) := (IntWalk.i64_in _ (by omega)).trans (by omega)
          have l1 : (p16 : Int) < (i : Int) := by omega
          have l2 : (p7 : Int) < (i : Int) := by omega
          have l3 : (p15 : Int) < (i : Int) := by omega
          have l4 : (p2 : Int) < (i : Int) := by omega
          have c1 : ∀ V, (Bi V w.heap.size (.slice (some ⟨go, 0, none⟩) i co) i (wF b) ∧ Below w.heap.size w V) → V.cell? ⟨go, p16, none⟩ = some (.int .i64 ((wF b p16 : Nat) : Int)) := fun V hV => hV.1.cell p16 (by omega)
          have c2 : ∀ V, (Bi V w.heap.size (.slice (some ⟨go, 0, none⟩) i co) i (wF b) ∧ Below w.heap.size w V) → V.cell? ⟨go, p7, none⟩ = some (.int .i64 ((wF b p7 : Nat) : Int)) := fun V hV => hV.1.cell p7 (by omega)
          have c3 : ∀ V, (Bi V w.heap.size (.slice (some ⟨go, 0, none⟩) i co) i (wF b) ∧ Below w.heap.size w V) → V.cell? ⟨go, p15, none⟩ = some (.int .i64 ((wF b p15 : Nat) : Int)) := fun V hV => hV.1.cell p15 (by omega)
          have c4 : ∀ V, (Bi V w.heap.size (.slice (some ⟨go, 0, none⟩) i co) i (wF b) ∧ Below w.heap.size w V) → V.cell? ⟨go, p2, none⟩ = some (.int .i64 ((wF b p2 : Nat) : Int)) := fun V hV => hV.1.cell p2 (by omega)
          have hCC : ∀ V V', (Bi V w.heap.size (.slice (some ⟨go, 0, none⟩) i co) i (wF b) ∧ Below w.heap.size w V) → Below V.heap.size V V' → (Bi V' w.heap.size (.slice (some ⟨go, 0, none⟩) i co) i (wF b) ∧ Below w.heap.size w V') := fun V V' hV hb => ⟨hV.1.later hb, hV.2.trans (hb.mono hV.2.size)⟩
          have m1 := keep_call (w := w) hCC (mixed_any (wF b p15) 7 18 3 true (wF_lt b p15) (by omega) (by omega) (by omega))
          have m2 := keep_call (w := w) hCC (mixed_any (wF b p2) 17 19 10 true (wF_lt b p2) (by omega) (by omega) (by omega))
          have n1 := wF_lt b p16
          have n2 := wF_lt b p7
          have n3 := mixN_lt (wF b p15) 7 18 3 true
          have n4 := mixN_lt (wF b p2) 17 19 10 true
          obtain ⟨u, hu⟩ : ∃ u, wF b i = u := ⟨_, rfl⟩
          rw [hu] at hnx
          generalize wF b p16 = q1 at *
          generalize wF b p7 = q2 at *
          generalize mixN (wF b p15) 7 18 3 true = q3 at *
          generalize mixN (wF b p2) 17 19 10 true = q4 at *
          generalize wF b p15 = z3 at *
          generalize wF b p2 = z4 at *
          obtain ⟨a1, ha1⟩ : ∃ a, q1 + q2 = a := ⟨_, rfl⟩
          obtain ⟨a2, ha2⟩ : ∃ a, a1 + q3 = a := ⟨_, rfl⟩
          obtain ⟨a3, ha3⟩ : ∃ a, a2 + q4 = a := ⟨_, rfl⟩
          rw [ha1, ha2, ha3] at hnx
          have k5 : IntKind.i64.wrap ((q1 : Int) + (q2 : Int)) = (a1 : Int) := (IntWalk.i64_in _ (by omega)).trans (by omega)
          have k6 : IntKind.i64.wrap ((a1 : Int) + (q3 : Int)) = (a2 : Int) := (IntWalk.i64_in _ (by omega)).trans (by omega)
          have k7 : IntKind.i64.wrap ((a2 : Int) + (q4 : Int)) = (a3 : Int) := (IntWalk.i64_in _ (by omega)).trans (by omega)
          have k8 : (a3 : Int).tmod 4294967296 = (u : Int) := by rw [hnx]; rfl
          have hul : u < 4294967296 := by rw [hnx]; omega
          have k9 : (a3 : Int) % 4294967296 = (u : Int) := by omega
          clear hp16 hp7 hp15 hp2 ha1 ha2 ha3 hnx n1 n2 n3 n4 hCC
          go_wp2_with fail
          refine wp_region_quiet_tail1 (fun V => Bi V w.heap.size (.slice (some ⟨go, 0, none⟩) i co) i (wF b) ∧ Below w.heap.size w V) 27 (.slice (some ⟨go, 0, none⟩) i co) (by kernel_rfl) ?hB14 ?hC14 ?hQ14 ?hy14 ?_
          case hB14 => kernel_rfl
          case hC14 => exact ⟨hO.drew, hB.drew⟩
          case hQ14 => exact fun c a w h => h
          case hy14 => exact .inl ⟨rfl, fun w => by go_simp⟩
          clear hO hB
          simp only [Nat.reduceSub, List.take_succ_cons, List.take_zero, List.drop_succ_cons, List.drop_zero, Act.put, List.setIfInBounds_toArray, List.set_cons_succ, List.set_cons_zero]
          refine BigFrame.wpQuiet_want rfl (fun K hK => ?_)
          refine BigFrame.quiet_move _ rfl ?_
          go_simp; refine hK _ ?_; clear hK K
          refine BigFrame.wpQuiet_want rfl (fun K hK => ?_)
          refine BigFrame.quiet_move _ rfl ?_
          go_simp; refine hK _ ?_; clear hK K
          refine BigFrame.wpQuiet_want rfl (fun K hK => ?_)
          refine quiet_run (.int .i64 ((p16 : Nat) : Int)) (fun W hW => by go_simp) ?_
          go_simp; refine hK _ ?_; clear hK K
          refine BigFrame.wpQuiet_want rfl (fun K hK => ?_)
          refine quiet_run (.pointer (some ⟨go, p16, none⟩)) (fun W hW => by go_simp) ?_
          go_simp; refine hK _ ?_; clear hK K
          refine BigFrame.wpQuiet_want rfl (fun K hK => ?_)
          refine quiet_run (.int .i64 ((q1 : Nat) : Int)) (fun W hW => by have q := c1 W hW; go_simp) ?_
          go_simp; refine hK _ ?_; clear hK K
          refine BigFrame.wpQuiet_want rfl (fun K hK => ?_)
          refine BigFrame.quiet_move _ rfl ?_
          go_simp; refine hK _ ?_; clear hK K
          refine BigFrame.wpQuiet_want rfl (fun K hK => ?_)
          refine BigFrame.quiet_move _ rfl ?_
          go_simp; refine hK _ ?_; clear hK K
          refine BigFrame.wpQuiet_want rfl (fun K hK => ?_)
          refine quiet_run (.int .i64 ((p7 : Nat) : Int)) (fun W hW => by go_simp) ?_
          go_simp; refine hK _ ?_; clear hK K
          refine BigFrame.wpQuiet_want rfl (fun K hK => ?_)
          refine quiet_run (.pointer (some ⟨go, p7, none⟩)) (fun W hW => by go_simp) ?_
          go_simp; refine hK _ ?_; clear hK K
          refine BigFrame.wpQuiet_want rfl (fun K hK => ?_)
          refine quiet_run (.int .i64 ((q2 : Nat) : Int)) (fun W hW => by have q := c2 W hW; go_simp) ?_
          go_simp; refine hK _ ?_; clear hK K
          refine BigFrame.wpQuiet_want rfl (fun K hK => ?_)
          refine quiet_run (.int .i64 ((a1 : Nat) : Int)) (fun W hW => by go_simp) ?_
          go_simp; refine hK _ ?_; clear hK K
          refine BigFrame.wpQuiet_want rfl (fun K hK => ?_)
          refine BigFrame.quiet_move _ rfl ?_
          go_simp; refine hK _ ?_; clear hK K
          refine BigFrame.wpQuiet_want rfl (fun K hK => ?_)
          refine BigFrame.quiet_move _ rfl ?_
          go_simp; refine hK _ ?_; clear hK K
          refine BigFrame.wpQuiet_want rfl (fun K hK => ?_)
          refine quiet_run (.int .i64 ((p15 : Nat) : Int)) (fun W hW => by go_simp) ?_
          go_simp; refine hK _ ?_; clear hK K
          refine BigFrame.wpQuiet_want rfl (fun K hK => ?_)
          refine quiet_run (.pointer (some ⟨go, p15, none⟩)) (fun W hW => by go_simp) ?_
          go_simp; refine hK _ ?_; clear hK K
          refine BigFrame.wpQuiet_want rfl (fun K hK => ?_)
          refine quiet_run (.int .i64 ((z3 : Nat) : Int)) (fun W hW => by have q := c3 W hW; go_simp) ?_
          go_simp; refine hK _ ?_; clear hK K
          refine BigFrame.wpQuiet_want rfl (fun K hK => ?_)
          refine quiet_call 32 #[.int .i64 (z3 : Int), .int .i64 7, .int .i64 18, .int .i64 3, .bool true] _ (fun W hW => by go_simp) m1 ?_
          go_simp; refine hK _ ?_; clear hK K
          refine BigFrame.wpQuiet_want rfl (fun K hK => ?_)
          refine quiet_run (.int .i64 ((a2 : Nat) : Int)) (fun W hW => by go_simp) ?_
          go_simp; refine hK _ ?_; clear hK K
          refine BigFrame.wpQuiet_want rfl (fun K hK => ?_)
          refine BigFrame.quiet_move _ rfl ?_
          go_simp; refine hK _ ?_; clear hK K
          refine BigFrame.wpQuiet_want rfl (fun K hK => ?_)
          refine BigFrame.quiet_move _ rfl ?_
          go_simp; refine hK _ ?_; clear hK K
          refine BigFrame.wpQuiet_want rfl (fun K hK => ?_)
          refine quiet_run (.int .i64 ((p2 : Nat) : Int)) (fun W hW => by go_simp) ?_
          go_simp; refine hK _ ?_; clear hK K
          refine BigFrame.wpQuiet_want rfl (fun K hK => ?_)
          refine quiet_run (.pointer (some ⟨go, p2, none⟩)) (fun W hW => by go_simp) ?_
          go_simp; refine hK _ ?_; clear hK K
          refine BigFrame.wpQuiet_want rfl (fun K hK => ?_)
          refine quiet_run (.int .i64 ((z4 : Nat) : Int)) (fun W hW => by have q := c4 W hW; go_simp) ?_
          go_simp; refine hK _ ?_; clear hK K
          refine BigFrame.wpQuiet_want rfl (fun K hK => ?_)
          refine quiet_call 32 #[.int .i64 (z4 : Int), .int .i64 17, .int .i64 19, .int .i64 10, .bool true] _ (fun W hW => by go_simp) m2 ?_
          go_simp; refine hK _ ?_; clear hK K
          refine BigFrame.wpQuiet_want rfl (fun K hK => ?_)
          refine quiet_run (.int .i64 ((a3 : Nat) : Int)) (fun W hW => by go_simp) ?_
          go_simp; refine hK _ ?_; clear hK K
          refine BigFrame.wpQuiet_want rfl (fun K hK => ?_)
          refine quiet_run (.int .i64 ((u : Nat) : Int)) (fun W hW => by go_simp) ?_
          go_simp; refine hK _ ?_; clear hK K
          refine wpQuiet_nil ?_
          rintro W ⟨hO, hB⟩
          have hbs := hB.size
          clear c1 c2 c3 c4 m1 m2 k1 k2 k3 k4 k5 k6 k7 k8 k9
          go_wp2_with (at_builtin; go_loud (refine wpList_append_one rfl _ _ rfl w.heap.size i _ (wF b) rfl (hO.alloc _) W.heap.size u rfl (Holds_.new W 3 _) hu.symm (by omega) ?d1 ?_))
          case d1 => simp; omega
          intro v' w' hO' hb'
          have hB' : Below w.heap.size w w' := (hB.alloc hbs _).trans hb'
          go_wp2_with fail
          go_roundw
          case rel => exact ⟨i + 1, by omega, by omega, by go_num, hO', hB'⟩
          case measure => simp [intOf]; omega
        · have hi64 : i = 64 := by omega
          rw [hi64] at hO
          have j2 : ¬ (i : Int) < 64 := by omega
          clear hi16 hi hlt hi64 j1
          generalize i = i2 at *
          obtain ⟨go, co, rfl, hgo, _, _, _⟩ := Sl.form hO (by omega)
          have hbs := hB.size
          have hHr := Bi.later hH hB
          have hN0 := Bi.nil_ wr wr.heap.size hf
          go_wp2_with (at_builtin; go_loud (refine wpList_append_Bi rfl _ _ rfl wr.heap.size 0 _ hf rfl hN0 b1 gh 8 ch hf rfl hHr (by omega) (Nat.le_refl _) ?_))
          intro vv w3 hV hb3
          have hV : Bi w3 wr.heap.size vv 8 (vF b hf 0) := hV.congr (f' := hf) (fun j hj => by unfold joinF; rw [if_neg (by omega)]; rfl)
          have hgo3 : go < wr.heap.size := (Sl.lt hO go rfl).2
          have hW := hO.later hb3
          have hB3 := hB.trans (hb3.mono hbs)
          clear hN0 hHr hO hB hb3
          go_wp2_with fail
          generalize hbv : wr.heap.size = bv at *
          go_loopw [12, 13] (fun vv tv wq => ∃ t : Nat, t ≤ 64 ∧ tv = .int .i64 t ∧ Bi wq bv vv 8 (vF b hf t) ∧ Bi wq w.heap.size (.slice (some ⟨go, 0, none⟩) 64 co) 64 (wF b) ∧ Below w.heap.size w wq) (fun _ tv _ => 64 - (intOf tv).toNat)
          case atStart => exact ⟨0, by omega, rfl, hV, hW, hB3⟩
          case round =>
            clear hV hW hB3
            obtain ⟨t, ht, rfl, hV, hW, hB⟩ := hrel
            obtain ⟨gv, cv, rfl, hgv, _, _, _⟩ := Sl.form hV (by omega)
            by_cases hlt : t < 64
            · have j3 : (t : Int) < 64 := by omega
              have hok := vF_ok b hf hh t
              have hnx := vF_next b hf hh t
              generalize vF b hf t = v at *
              have n0 := hok 0 (by omega)
              have n1 := hok 1 (by omega)
              have n2 := hok 2 (by omega)
              have n3 := hok 3 (by omega)
              have n4 := hok 4 (by omega)
              have n5 := hok 5 (by omega)
              have n6 := hok 6 (by omega)
              have n7 := hok 7 (by omega)
              have c0 : ∀ V, (Bi V bv (.slice (some ⟨gv, 0, none⟩) 8 cv) 8 v ∧ Bi V w.heap.size (.slice (some ⟨go, 0, none⟩) 64 co) 64 (wF b) ∧ Below w.heap.size w V) → ∀ j, j < 8 → V.cell? ⟨gv, j, none⟩ = some (.int .i64 ((v j : Nat) : Int)) := fun V hV j hj => hV.1.cell j hj
              have d0 := fun V hV => c0 V hV 0 (by omega)
              have d1 := fun V hV => c0 V hV 1 (by omega)
              have d2 := fun V hV => c0 V hV 2 (by omega)
              have d3 := fun V hV => c0 V hV 3 (by omega)
              have d4 := fun V hV => c0 V hV 4 (by omega)
              have d5 := fun V hV => c0 V hV 5 (by omega)
              have d6 := fun V hV => c0 V hV 6 (by omega)
              have d7 := fun V hV => c0 V hV 7 (by omega)
              have dk : ∀ V, (Bi V bv (.slice (some ⟨gv, 0, none⟩) 8 cv) 8 v ∧ Bi V w.heap.size (.slice (some ⟨go, 0, none⟩) 64 co) 64 (wF b) ∧ Below w.heap.size w V) → V.cell? ⟨gk, t, none⟩ = some (.int .i64 ((Sha.cF t : Nat) : Int)) := fun V hV => (Bi.later hK hV.2.2).cell t hlt
              have dw : ∀ V, (Bi V bv (.slice (some ⟨gv, 0, none⟩) 8 cv) 8 v ∧ Bi V w.heap.size (.slice (some ⟨go, 0, none⟩) 64 co) 64 (wF b) ∧ Below w.heap.size w V) → V.cell? ⟨go, t, none⟩ = some (.int .i64 ((wF b t : Nat) : Int)) := fun V hV => hV.2.1.cell t hlt
              have hCC : ∀ V V', (Bi V bv (.slice (some ⟨gv, 0, none⟩) 8 cv) 8 v ∧ Bi V w.heap.size (.slice (some ⟨go, 0, none⟩) 64 co) 64 (wF b) ∧ Below w.heap.size w V) → Below V.heap.size V V' → (Bi V' bv (.slice (some ⟨gv, 0, none⟩) 8 cv) 8 v ∧ Bi V' w.heap.size (.slice (some ⟨go, 0, none⟩) 64 co) 64 (wF b) ∧ Below w.heap.size w V') := fun V V' hV hb => ⟨hV.1.later hb, hV.2.1.later hb, hV.2.2.trans (hb.mono hV.2.2.size)⟩
              have m1 := keep_call (w := w) hCC (mixed_any (v 4) 6 11 25 false n4 (by omega) (by omega) (by omega))
              have m2 := keep_call (w := w) hCC (picked_any (v 4) (v 5) (v 6) n4 n5 n6)
              have m3 := keep_call (w := w) hCC (mixed_any (v 0) 2 13 22 false n0 (by omega) (by omega) (by omega))
              have m4 := keep_call (w := w) hCC (most_any (v 0) (v 1) (v 2) n0 n1 n2)
              have x1 := mixN_lt (v 4) 6 11 25 false
              have x2 := pickN_lt (v 4) (v 5) (v 6)
              have x3 := mixN_lt (v 0) 2 13 22 false
              have x4 := mostN_lt (v 0) (v 1) (v 2)
              have x5 : Sha.cF t < 4294967296 := Sha.cF_ok t hlt
              have x6 := wF_lt b t
              have hs0 := hnx 0 (by omega)
              have hs1 := hnx 1 (by omega)
              have hs2 := hnx 2 (by omega)
              have hs3 := hnx 3 (by omega)
              have hs4 := hnx 4 (by omega)
              have hs5 := hnx 5 (by omega)
              have hs6 := hnx 6 (by omega)
              have hs7 := hnx 7 (by omega)
              have hE : ∀ E0 E4, (ttN (Sha.cF t) (wF b t) v + uuN v) % 4294967296 = E0 → (v 3 + ttN (Sha.cF t) (wF b t) v) % 4294967296 = E4 → ∀ k, k < 8 → gl [E0, v 0, v 1, v 2, E4, v 4, v 5, v 6] k = vF b hf (t + 1) k := fun E0 E4 h0 h4 k hk => by
                rcases (by omega : k = 0 ∨ k = 1 ∨ k = 2 ∨ k = 3 ∨ k = 4 ∨ k = 5 ∨ k = 6 ∨ k = 7) with rfl | rfl | rfl | rfl | rfl | rfl | rfl | rfl
                · rw [hs0, ← h0]; rfl
                · rw [hs1]; rfl
                · rw [hs2]; rfl
                · rw [hs3]; rfl
                · rw [hs4, ← h4]; rfl
                · rw [hs5]; rfl
                · rw [hs6]; rfl
                · rw [hs7]; rfl
              have htt : ttN (Sha.cF t) (wF b t) v = v 7 + mixN (v 4) 6 11 25 false + pickN (v 4) (v 5) (v 6) + Sha.cF t + wF b t := rfl
              have huu : uuN v = mixN (v 0) 2 13 22 false + mostN (v 0) (v 1) (v 2) := rfl
              generalize ttN (Sha.cF t) (wF b t) v = TT at *
              generalize uuN v = UU at *
              have HE := Lib.hid hE
              clear hs0 hs1 hs2 hs3 hs4 hs5 hs6 hs7 hnx hok hE c0 hCC
              have hVq := hV
              generalize mixN (v 4) 6 11 25 false = y1 at *
              generalize pickN (v 4) (v 5) (v 6) = y2 at *
              generalize mixN (v 0) 2 13 22 false = y3 at *
              generalize mostN (v 0) (v 1) (v 2) = y4 at *
              obtain ⟨q0, hq0⟩ : ∃ q, v 0 = q := ⟨_, rfl⟩
              obtain ⟨q1, hq1⟩ : ∃ q, v 1 = q := ⟨_, rfl⟩
              obtain ⟨q2, hq2⟩ : ∃ q, v 2 = q := ⟨_, rfl⟩
              obtain ⟨q3, hq3⟩ : ∃ q, v 3 = q := ⟨_, rfl⟩
              obtain ⟨q4, hq4⟩ : ∃ q, v 4 = q := ⟨_, rfl⟩
              obtain ⟨q5, hq5⟩ : ∃ q, v 5 = q := ⟨_, rfl⟩
              obtain ⟨q6, hq6⟩ : ∃ q, v 6 = q := ⟨_, rfl⟩
              obtain ⟨q7, hq7⟩ : ∃ q, v 7 = q := ⟨_, rfl⟩
              rw [hq0] at d0 m3 m4 n0
              rw [hq1] at d1 m4 n1
              rw [hq2] at d2 m4 n2
              rw [hq3] at d3 n3
              rw [hq4] at d4 m1 m2 n4
              rw [hq5] at d5 m2 n5
              rw [hq6] at d6 m2 n6
              rw [hq7] at d7 n7 htt
              generalize Sha.cF t = x at *
              generalize wF b t = z at *
              obtain ⟨a1, ha1⟩ : ∃ a, q7 + y1 = a := ⟨_, rfl⟩
              obtain ⟨a2, ha2⟩ : ∃ a, a1 + y2 = a := ⟨_, rfl⟩
              obtain ⟨a3, ha3⟩ : ∃ a, a2 + x = a := ⟨_, rfl⟩
              rw [ha1, ha2, ha3] at htt
              have k1 : IntKind.i64.wrap ((q7 : Int) + (y1 : Int)) = (a1 : Int) := (IntWalk.i64_in _ (by omega)).trans (by omega)
              have k2 : IntKind.i64.wrap ((a1 : Int) + (y2 : Int)) = (a2 : Int) := (IntWalk.i64_in _ (by omega)).trans (by omega)
              have k3 : IntKind.i64.wrap ((a2 : Int) + (x : Int)) = (a3 : Int) := (IntWalk.i64_in _ (by omega)).trans (by omega)
              have k4 : IntKind.i64.wrap ((a3 : Int) + (z : Int)) = (TT : Int) := (IntWalk.i64_in _ (by omega)).trans (by omega)
              have k5 : IntKind.i64.wrap ((y3 : Int) + (y4 : Int)) = (UU : Int) := (IntWalk.i64_in _ (by omega)).trans (by omega)
              obtain ⟨s1, hs1⟩ : ∃ s, TT + UU = s := ⟨_, rfl⟩
              obtain ⟨s2, hs2⟩ : ∃ s, q3 + TT = s := ⟨_, rfl⟩
              obtain ⟨E0, hE0⟩ : ∃ s, s1 % 4294967296 = s := ⟨_, rfl⟩
              obtain ⟨E4, hE4⟩ : ∃ s, s2 % 4294967296 = s := ⟨_, rfl⟩
              have k6 : IntKind.i64.wrap ((TT : Int) + (UU : Int)) = (s1 : Int) := (IntWalk.i64_in _ (by omega)).trans (by omega)
              have k7 : (s1 : Int).tmod 4294967296 = (E0 : Int) := by rw [← hE0]; rfl
              have k8 : IntKind.i64.wrap ((q3 : Int) + (TT : Int)) = (s2 : Int) := (IntWalk.i64_in _ (by omega)).trans (by omega)
              have k9 : (s2 : Int).tmod 4294967296 = (E4 : Int) := by rw [← hE4]; rfl
              have HE2 := Lib.hid (HE.out E0 E4 (by rw [hs1, hE0]) (by rw [hq3, hs2, hE4]))
              clear HE ha1 ha2 ha3 htt huu hs1 hs2 hE0 hE4
              clear n0 n1 n2 n3 n4 n5 n6 n7 x1 x2 x3 x4 x5 x6
              have HQ := Lib.hid (show v 0 = q0 ∧ v 1 = q1 ∧ v 2 = q2 ∧ v 4 = q4 ∧ v 5 = q5 ∧ v 6 = q6 from ⟨hq0, hq1, hq2, hq4, hq5, hq6⟩)
              clear hq0 hq1 hq2 hq3 hq4 hq5 hq6 hq7
              go_wp2_with fail
              refine wp_region_quiet_class (fun V => Bi V bv (.slice (some ⟨gv, 0, none⟩) 8 cv) 8 v ∧ Bi V w.heap.size (.slice (some ⟨go, 0, none⟩) 64 co) 64 (wF b) ∧ Below w.heap.size w V) (by kernel_rfl) (by kernel_rfl) ⟨hV.drew, hW.drew, hB.drew⟩ ?_
              clear hV hW hB hVq
              refine BigFrame.wpQuiet_want rfl (fun K hK => ?_)
              refine BigFrame.quiet_move _ rfl ?_
              go_simp; refine hK _ ?_; clear hK K
              refine BigFrame.wpQuiet_want rfl (fun K hK => ?_)
              refine quiet_run (.pointer (some ⟨gv, 7, none⟩)) (fun W hW => by go_simp) ?_
              go_simp; refine hK _ ?_; clear hK K
              refine BigFrame.wpQuiet_want rfl (fun K hK => ?_)
              refine quiet_run (.int .i64 ((q7 : Nat) : Int)) (fun W hW => by have q := d7 W hW; go_simp) ?_
              go_simp; refine hK _ ?_; clear hK K
              refine BigFrame.wpQuiet_want rfl (fun K hK => ?_)
              refine BigFrame.quiet_move _ rfl ?_
              go_simp; refine hK _ ?_; clear hK K
              refine BigFrame.wpQuiet_want rfl (fun K hK => ?_)
              refine quiet_run (.pointer (some ⟨gv, 4, none⟩)) (fun W hW => by go_simp) ?_
              go_simp; refine hK _ ?_; clear hK K
              refine BigFrame.wpQuiet_want rfl (fun K hK => ?_)
              refine quiet_run (.int .i64 ((q4 : Nat) : Int)) (fun W hW => by have q := d4 W hW; go_simp) ?_
              go_simp; refine hK _ ?_; clear hK K
              refine BigFrame.wpQuiet_want rfl (fun K hK => ?_)
              refine quiet_call 32 #[.int .i64 (q4 : Int), .int .i64 6, .int .i64 11, .int .i64 25, .bool false] _ (fun W hW => by go_simp) m1 ?_
              go_simp; refine hK _ ?_; clear hK K
              refine BigFrame.wpQuiet_want rfl (fun K hK => ?_)
              refine quiet_run (.int .i64 ((a1 : Nat) : Int)) (fun W hW => by go_simp) ?_
              go_simp; refine hK _ ?_; clear hK K
              refine BigFrame.wpQuiet_want rfl (fun K hK => ?_)
              refine BigFrame.quiet_move _ rfl ?_
              go_simp; refine hK _ ?_; clear hK K
              refine BigFrame.wpQuiet_want rfl (fun K hK => ?_)
              refine quiet_run (.pointer (some ⟨gv, 4, none⟩)) (fun W hW => by go_simp) ?_
              go_simp; refine hK _ ?_; clear hK K
              refine BigFrame.wpQuiet_want rfl (fun K hK => ?_)
              refine quiet_run (.int .i64 ((q4 : Nat) : Int)) (fun W hW => by have q := d4 W hW; go_simp) ?_
              go_simp; refine hK _ ?_; clear hK K
              refine BigFrame.wpQuiet_want rfl (fun K hK => ?_)
              refine BigFrame.quiet_move _ rfl ?_
              go_simp; refine hK _ ?_; clear hK K
              refine BigFrame.wpQuiet_want rfl (fun K hK => ?_)
              refine quiet_run (.pointer (some ⟨gv, 5, none⟩)) (fun W hW => by go_simp) ?_
              go_simp; refine hK _ ?_; clear hK K
              refine BigFrame.wpQuiet_want rfl (fun K hK => ?_)
              refine quiet_run (.int .i64 ((q5 : Nat) : Int)) (fun W hW => by have q := d5 W hW; go_simp) ?_
              go_simp; refine hK _ ?_; clear hK K
              refine BigFrame.wpQuiet_want rfl (fun K hK => ?_)
              refine BigFrame.quiet_move _ rfl ?_
              go_simp; refine hK _ ?_; clear hK K
              refine BigFrame.wpQuiet_want rfl (fun K hK => ?_)
              refine quiet_run (.pointer (some ⟨gv, 6, none⟩)) (fun W hW => by go_simp) ?_
              go_simp; refine hK _ ?_; clear hK K
              refine BigFrame.wpQuiet_want rfl (fun K hK => ?_)
              refine quiet_run (.int .i64 ((q6 : Nat) : Int)) (fun W hW => by have q := d6 W hW; go_simp) ?_
              go_simp; refine hK _ ?_; clear hK K
              refine BigFrame.wpQuiet_want rfl (fun K hK => ?_)
              refine quiet_call 33 #[.int .i64 (q4 : Int), .int .i64 (q5 : Int), .int .i64 (q6 : Int)] _ (fun W hW => by go_simp) m2 ?_
              go_simp; refine hK _ ?_; clear hK K
              refine BigFrame.wpQuiet_want rfl (fun K hK => ?_)
              refine quiet_run (.int .i64 ((a2 : Nat) : Int)) (fun W hW => by go_simp) ?_
              go_simp; refine hK _ ?_; clear hK K
              refine BigFrame.wpQuiet_want rfl (fun K hK => ?_)
              refine BigFrame.quiet_move _ rfl ?_
              go_simp; refine hK _ ?_; clear hK K
              refine BigFrame.wpQuiet_want rfl (fun K hK => ?_)
              refine BigFrame.quiet_move _ rfl ?_
              go_simp; refine hK _ ?_; clear hK K
              refine BigFrame.wpQuiet_want rfl (fun K hK => ?_)
              refine quiet_run (.pointer (some ⟨gk, t, none⟩)) (fun W hW => by go_simp) ?_
              go_simp; refine hK _ ?_; clear hK K
              refine BigFrame.wpQuiet_want rfl (fun K hK => ?_)
              refine quiet_run (.int .i64 ((x : Nat) : Int)) (fun W hW => by have q := dk W hW; go_simp) ?_
              go_simp; refine hK _ ?_; clear hK K
              refine BigFrame.wpQuiet_want rfl (fun K hK => ?_)
              refine quiet_run (.int .i64 ((a3 : Nat) : Int)) (fun W hW => by go_simp) ?_
              go_simp; refine hK _ ?_; clear hK K
              refine BigFrame.wpQuiet_want rfl (fun K hK => ?_)
              refine BigFrame.quiet_move _ rfl ?_
              go_simp; refine hK _ ?_; clear hK K
              refine BigFrame.wpQuiet_want rfl (fun K hK => ?_)
              refine BigFrame.quiet_move _ rfl ?_
              go_simp; refine hK _ ?_; clear hK K
              refine BigFrame.wpQuiet_want rfl (fun K hK => ?_)
              refine quiet_run (.pointer (some ⟨go, t, none⟩)) (fun W hW => by go_simp) ?_
              go_simp; refine hK _ ?_; clear hK K
              refine BigFrame.wpQuiet_want rfl (fun K hK => ?_)
              refine quiet_run (.int .i64 ((z : Nat) : Int)) (fun W hW => by have q := dw W hW; go_simp) ?_
              go_simp; refine hK _ ?_; clear hK K
              refine BigFrame.wpQuiet_want rfl (fun K hK => ?_)
              refine quiet_run (.int .i64 ((TT : Nat) : Int)) (fun W hW => by go_simp) ?_
              go_simp; refine hK _ ?_; clear hK K
              refine BigFrame.wpQuiet_want rfl (fun K hK => ?_)
              refine quiet_run (.int .i64 ((TT : Nat) : Int)) (fun W hW => by go_simp) ?_
              go_simp; refine hK _ ?_; clear hK K
              refine wpQuiet_nil ?_
              rintro W ⟨hV, hW, hB⟩
              clear k1 k2 k3 k4 d7 m1 m2 dk dw
              go_wp2_with fail
              refine wp_region_quiet_class (fun V => Bi V bv (.slice (some ⟨gv, 0, none⟩) 8 cv) 8 v ∧ Bi V w.heap.size (.slice (some ⟨go, 0, none⟩) 64 co) 64 (wF b) ∧ Below w.heap.size w V) (by kernel_rfl) (by kernel_rfl) ⟨hV.drew, hW.drew, hB.drew⟩ ?_
              clear hV hW hB
              refine BigFrame.wpQuiet_want rfl (fun K hK => ?_)
              refine BigFrame.quiet_move _ rfl ?_
              go_simp; refine hK _ ?_; clear hK K
              refine BigFrame.wpQuiet_want rfl (fun K hK => ?_)
              refine quiet_run (.pointer (some ⟨gv, 0, none⟩)) (fun W hW => by go_simp) ?_
              go_simp; refine hK _ ?_; clear hK K
              refine BigFrame.wpQuiet_want rfl (fun K hK => ?_)
              refine quiet_run (.int .i64 ((q0 : Nat) : Int)) (fun W hW => by have q := d0 W hW; go_simp) ?_
              go_simp; refine hK _ ?_; clear hK K
              refine BigFrame.wpQuiet_want rfl (fun K hK => ?_)
              refine quiet_call 32 #[.int .i64 (q0 : Int), .int .i64 2, .int .i64 13, .int .i64 22, .bool false] _ (fun W hW => by go_simp) m3 ?_
              go_simp; refine hK _ ?_; clear hK K
              refine BigFrame.wpQuiet_want rfl (fun K hK => ?_)
              refine BigFrame.quiet_move _ rfl ?_
              go_simp; refine hK _ ?_; clear hK K
              refine BigFrame.wpQuiet_want rfl (fun K hK => ?_)
              refine quiet_run (.pointer (some ⟨gv, 0, none⟩)) (fun W hW => by go_simp) ?_
              go_simp; refine hK _ ?_; clear hK K
              refine BigFrame.wpQuiet_want rfl (fun K hK => ?_)
              refine quiet_run (.int .i64 ((q0 : Nat) : Int)) (fun W hW => by have q := d0 W hW; go_simp) ?_
              go_simp; refine hK _ ?_; clear hK K
              refine BigFrame.wpQuiet_want rfl (fun K hK => ?_)
              refine BigFrame.quiet_move _ rfl ?_
              go_simp; refine hK _ ?_; clear hK K
              refine BigFrame.wpQuiet_want rfl (fun K hK => ?_)
              refine quiet_run (.pointer (some ⟨gv, 1, none⟩)) (fun W hW => by go_simp) ?_
              go_simp; refine hK _ ?_; clear hK K
              refine BigFrame.wpQuiet_want rfl (fun K hK => ?_)
              refine quiet_run (.int .i64 ((q1 : Nat) : Int)) (fun W hW => by have q := d1 W hW; go_simp) ?_
              go_simp; refine hK _ ?_; clear hK K
              refine BigFrame.wpQuiet_want rfl (fun K hK => ?_)
              refine BigFrame.quiet_move _ rfl ?_
              go_simp; refine hK _ ?_; clear hK K
              refine BigFrame.wpQuiet_want rfl (fun K hK => ?_)
              refine quiet_run (.pointer (some ⟨gv, 2, none⟩)) (fun W hW => by go_simp) ?_
              go_simp; refine hK _ ?_; clear hK K
              refine BigFrame.wpQuiet_want rfl (fun K hK => ?_)
              refine quiet_run (.int .i64 ((q2 : Nat) : Int)) (fun W hW => by have q := d2 W hW; go_simp) ?_
              go_simp; refine hK _ ?_; clear hK K
              refine BigFrame.wpQuiet_want rfl (fun K hK => ?_)
              refine quiet_call 34 #[.int .i64 (q0 : Int), .int .i64 (q1 : Int), .int .i64 (q2 : Int)] _ (fun W hW => by go_simp) m4 ?_
              go_simp; refine hK _ ?_; clear hK K
              refine BigFrame.wpQuiet_want rfl (fun K hK => ?_)
              refine quiet_run (.int .i64 ((UU : Nat) : Int)) (fun W hW => by go_simp) ?_
              go_simp; refine hK _ ?_; clear hK K
              refine BigFrame.wpQuiet_want rfl (fun K hK => ?_)
              refine quiet_run (.int .i64 ((UU : Nat) : Int)) (fun W hW => by go_simp) ?_
              go_simp; refine hK _ ?_; clear hK K
              refine wpQuiet_nil ?_
              rintro W ⟨hV, hW, hB⟩
              have f0 := d0 W ⟨hV, hW, hB⟩
              have f1 := d1 W ⟨hV, hW, hB⟩
              have f2 := d2 W ⟨hV, hW, hB⟩
              have f3 := d3 W ⟨hV, hW, hB⟩
              have f4 := d4 W ⟨hV, hW, hB⟩
              have f5 := d5 W ⟨hV, hW, hB⟩
              have f6 := d6 W ⟨hV, hW, hB⟩
              have hgW : bv ≤ W.heap.size := Nat.le_trans hgv (Nat.le_of_lt (Sl.lt hV gv rfl).2)
              have hbsW := hB.size
              clear k5 m3 m4 d0 d1 d2 d3 d4 d5 d6
              go_wp2_with fail
              refine wp_region_still_tail 28 (by kernel_rfl) (by kernel_rfl) ?_
              simp only [List.take_succ_cons, List.take_zero, List.drop_succ_cons, List.drop_zero]
              repeat still_step
              refine wpStill_nil ?_
              clear k6 k7 k8 k9 f0 f1 f2 f3 f4 f5 f6
              have hnew : Bi (W.drew.alloc (.cells #[.int .i64 (E0 : Nat), .int .i64 (q0 : Nat), .int .i64 (q1 : Nat), .int .i64 (q2 : Nat), .int .i64 (E4 : Nat), .int .i64 (q4 : Nat), .int .i64 (q5 : Nat), .int .i64 (q6 : Nat)] 3)) W.heap.size (.slice (some ⟨W.heap.size, 0, none⟩) 8 8) 8 (gl [E0, q0, q1, q2, E4, q4, q5, q6]) := Bi.holds (Holds_.new W.drew 3 _) rfl (by decide)
              have hVn := (hnew.congr (f' := vF b hf (t + 1)) (fun k hk => by
                obtain ⟨e0, e1, e2, e4, e5, e6⟩ := HQ.out
                have := HE2.out k hk
                rw [e0, e1, e2, e4, e5, e6] at this
                exact this)).lower hgW
              have hWn := hW.drew.alloc (.cells #[.int .i64 (E0 : Nat), .int .i64 (q0 : Nat), .int .i64 (q1 : Nat), .int .i64 (q2 : Nat), .int .i64 (E4 : Nat), .int .i64 (q4 : Nat), .int .i64 (q5 : Nat), .int .i64 (q6 : Nat)] 3)
              have hBn := hB.drew.alloc hbsW (.cells #[.int .i64 (E0 : Nat), .int .i64 (q0 : Nat), .int .i64 (q1 : Nat), .int .i64 (q2 : Nat), .int .i64 (E4 : Nat), .int .i64 (q4 : Nat), .int .i64 (q5 : Nat), .int .i64 (q6 : Nat)] 3)
              clear hnew hV hW hB
              go_wp2_with fail
              go_roundw
              case rel => exact ⟨t + 1, by omega, by go_num, hVn, hWn, hBn⟩
              case measure => simp [intOf]; omega
            · have ht64 : t = 64 := by omega
              rw [ht64] at hV
              have j3 : ¬ (t : Int) < 64 := by omega
              clear ht hlt ht64 hW
              generalize t = t2 at *
              have hbv2 : w.heap.size ≤ bv := hbs
              have hM0 : ∃ F, Bi wr bv (.slice (some ⟨gv, 0, none⟩) 8 cv) 8 F ∧ ∀ k, k < 8 → F k = if k < 0 then Sha.mix hf b k else vF b hf 64 k := ⟨_, hV, fun k hk => by rw [if_neg (by omega)]⟩
              clear hV
              go_wp2_with fail
              go_loopw [16] (fun jv wq => ∃ j : Nat, j ≤ 8 ∧ jv = .int .i64 j ∧ (∃ F, Bi wq bv (.slice (some ⟨gv, 0, none⟩) 8 cv) 8 F ∧ ∀ k, k < 8 → F k = if k < j then Sha.mix hf b k else vF b hf 64 k) ∧ Below w.heap.size w wq) (fun jv _ => 8 - (intOf jv).toNat)
              case atStart => exact ⟨0, by omega, rfl, hM0, hB⟩
              case round =>
                clear hM0 hB
                obtain ⟨j, hj, rfl, ⟨F, hV, hF⟩, hB⟩ := hrel
                by_cases hlt : j < 8
                · have j4 : (j : Int) < 8 := by omega
                  have c1 := hV.cell j hlt
                  have c2 := (Bi.later hH hB).cell j hlt
                  have f1 := hV.free j hlt
                  have hFj := hF j hlt
                  rw [if_neg (by omega)] at hFj
                  rw [hFj] at c1
                  have hm := mix_eq b hf j hlt
                  have n1 := vF_ok b hf hh 64 j hlt
                  have n2 := hh j hlt
                  have hVn : ∃ F', Bi (wr.setCell ⟨gv, j, none⟩ (.int .i64 ((Sha.mix hf b j : Nat) : Int))) bv (.slice (some ⟨gv, 0, none⟩) 8 cv) 8 F' ∧ ∀ k, k < 8 → F' k = if k < j + 1 then Sha.mix hf b k else vF b hf 64 k := ⟨_, hV.put j _, fun k hk => by
                    by_cases e : k = j
                    · rw [e, fput_same, if_pos (by omega)]
                    · rw [fput_other _ _ _ _ e, hF k hk]
                      by_cases h2 : k < j
                      · rw [if_pos h2, if_pos (by omega)]
                      · rw [if_neg h2, if_neg (by omega)]⟩
                  have hBn := hB.setCell (p := ⟨gv, j, none⟩) (Nat.le_trans hbv2 hgv) (.int .i64 ((Sha.mix hf b j : Nat) : Int))
                  generalize Sha.mix hf b j = r at *
                  generalize vF b hf 64 j = q1 at *
                  generalize hf j = q2 at *
                  obtain ⟨s, hs⟩ : ∃ s, q1 + q2 = s := ⟨_, rfl⟩
                  rw [hs] at hm
                  have k1 : IntKind.i64.wrap ((q1 : Int) + (q2 : Int)) = (s : Int) := (IntWalk.i64_in _ (by omega)).trans (by omega)
                  have k2 : (s : Int).tmod 4294967296 = (r : Int) := by rw [hm]; rfl
                  clear hV hB hF hFj hm hs n1 n2
                  go_wp2_with fail
                  refine wp_region_still_tail 13 (by kernel_rfl) (by kernel_rfl) ?_
                  simp only [List.take_succ_cons, List.take_zero, List.drop_succ_cons, List.drop_zero]
                  repeat still_step
                  refine wpStill_nil ?_
                  clear k1 k2 c2
                  go_wp2_with fail
                  go_roundw
                  case rel => exact ⟨j + 1, by omega, by go_num, hVn.imp (fun f h => ⟨h.1.drew, h.2⟩), hBn.drew⟩
                  case measure => simp [intOf]; omega
                · obtain rfl : j = 8 := by omega
                  have hV2 := (hV.congr (f' := Sha.mix hf b) (fun k hk => by rw [hF k hk, if_pos hk])).lower hbv2
                  go_wp2_with fail
                  go_ret
                  exact ⟨_, rfl, hV2, hB⟩
end Go.Proofs.YtkgbecgdappjoaaDoor
