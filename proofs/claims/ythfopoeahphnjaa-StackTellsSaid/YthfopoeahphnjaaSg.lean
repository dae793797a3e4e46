/- Swap, by its walk. -/
import Derived.Test.YthfopoeahphnjaaSf
namespace Go.Proofs.Ythfopoeahphnjaa
open Go.RowKit Go.Shelf
set_option linter.unusedVariables false
set_option linter.unusedSimpArgs false
attribute [local go_sem] wdV_size fold_word

set_option maxRecDepth 100000 in
set_option maxHeartbeats 1000000 in
theorem clone_sl (v : Value) (L : List Wd) (hL : L.length ≤ 100000) (w : World) (h : Ws w v L) :
    Calls Try.prog 20 #[v] w fun e W' => ∃ v', e = .returned v' ∧ Sl W' w.heap.size 25 4 v' L.length (flat L) ∧ Below w.heap.size w W' := by
  obtain ⟨i0, hi, hz0, hz1, hz2⟩ := info_parts infoz25
  have q27 : ∀ (w : World) (a : Option Addr) (n c n' c' : Nat), (binOp .eql 27 (.slice a n c) (.slice none n' c')).run Try.prog w = .ok (.bool a.isNone) w := fun w a n c n' c' => Lib.run_eql_slice_nil w _ _ a n c n' c' Try.underlying27
  rcases h with ⟨rfl, rfl⟩ | ⟨g, off, c, rfl, h2, h3, h4, h5⟩
  · go_enter Try.func20, Try.ntmps20
    go_wp2_with fail
    go_ret
    exact ⟨_, rfl, Sl.nil_ _ _ _ _, Below.refl _ _⟩
  · have hW : Ws w (.slice (some ⟨g, off, none⟩) L.length c) L := .inr ⟨g, off, c, rfl, h2, h3, h4, h5⟩
    have hS := Sl.made w
    have hB := (Below.refl w.heap.size w).alloc (Nat.le_refl _) (.cells #[] 25)
    go_enter Try.func20, Try.ntmps20
    go_wp2_with (at_builtin; refine wpList_append_Sl _ rfl _ _ 27 rfl w.heap.size 25 i0 (.agg (wdV (0, 0, 0, 0))) 4 32 Try.underlying27 hi hz0 hz1 hz2 rfl (by decide) _ _ _ rfl hS ⟨g, off, none⟩ L.length c (flat L) rfl ?d0 ?d1 ?d2 ?d3 ?d4 ?d5 ?_)
    case d0 => rw [flat_length]; omega
    case d1 => exact (hW.alloc _).news
    case d2 => exact flat_ok L
    case d3 => unfold maxLen at *; omega
    case d4 => omega
    case d5 => simp
    intro v' w' hS' hg' _
    replace hS' : Sl w' w.heap.size 25 4 v' L.length (flat L) := by simpa using hS'
    have hB' : Below w.heap.size w w' := hB.grown (w' := w') hg' hB.size (fun k e => (hS.lt k e).1)
    go_wp2_with fail
    go_ret
    exact ⟨_, rfl, hS', hB'⟩

/-- 'Swap'. -/
def swapE (S : List Wd) (n : Int) : Int := if wrongE S.length n 1 = 0 ∧ n = S.length then 40 else wrongE S.length n 1
def swapTo (S : List Wd) (n : Nat) : List Wd := (S.set (S.length - 1) (S.getD (S.length - 1 - n) (0, 0, 0, 0))).set (S.length - 1 - n) (S.getD (S.length - 1) (0, 0, 0, 0))
def swapL (S : List Wd) (n : Int) : List Wd := if swapE S n = 0 then swapTo S n.toNat else S
/-- What is known of values, wherever the world stands. -/
def fv (vs : List (Option Value)) : Nat → Value → World → Prop := fun i v _ => match vs.getD i none with | some x => v = x | none => True
theorem clos_get {l : List Oper} {ls : Nat → Bool} (h : ∀ j o', l[j]? = some o' → ls j = true → ∀ e ∈ o'.after, Region.binds .any e = true → ls e.on = true) (j k : Nat) (o' : Oper) (ho : l[j]? = some o') (hk : (o'.after.toList.any fun e => e.on == k && Region.binds .any e) = true) (hj : ls j = true) : ls k = true := by
  rw [Array.any_toList] at hk
  obtain ⟨e, he, hon⟩ := Array.any_eq_true'.1 hk
  rw [Bool.and_eq_true] at hon
  have hon' : e.on = k := by simpa using hon.1
  rw [← hon']
  exact h j o' ho hj e he hon.2
section
variable {o : Oper} {a : Act} {W : World} {G : Value → World → Prop}
theorem does_sub (x y : Operand) (A B p : Int) (hp : IntKind.i64.wrap (A - B) = p) (ho : o.op = .binOp .sub 3 x y 3) (ex : a.eval x = .int .i64 A) (ey : a.eval y = .int .i64 B) (hG : G (.int .i64 p) W) : DoesV Try.prog o a W G := by
  refine does_run _ ?_ hG
  rw [← hp]
  simp only [execOp, ho, ex, ey]
  simp [eqGuard, go_sem]
theorem does_at (x y : Operand) (g n c i : Nat) (hi : i < n) (ho : o.op = .indexAddr 27 x y) (ex : a.eval x = .slice (some ⟨g, 0, none⟩) n c) (ey : a.eval y = .int .i64 i) (hG : G (.pointer (some ⟨g, i * 4, none⟩)) W) : DoesV Try.prog o a W G := by
  refine does_run _ ?_ hG
  have h : (i : Int) < (n : Int) := by omega
  simp only [execOp, ho, ex, ey]
  simp [go_sem, h]
theorem does_loadW (x : Operand) (g off : Nat) (y : Wd) (ho : o.op = .load 25 x) (ex : a.eval x = .pointer (some ⟨g, off, none⟩)) (hc : ∀ j u, (wdV y)[j]? = some u → W.cell? ⟨g, off + j, none⟩ = some u) (hG : G (.agg (wdV y)) W) : DoesV Try.prog o a W G := by
  refine does_run _ ?_ hG
  have h := run_load_word W g off y hc
  simp [execOp, ho, ex, Instr.loadAt, Instr.sureAddr, h, Result.andThen]
theorem does_storeW (x y : Operand) (p : Addr) (u : Wd) (W' : World) (ho : o.op = .store 25 x y) (ex : a.eval x = .pointer (some p)) (ey : a.eval y = .agg (wdV u)) (hr : (storeVar 25 p (.agg (wdV u))).run Try.prog W = .ok () W') (hG : G undef W') : DoesV Try.prog o a W G := by
  have h : (execOp a.eval o).run Try.prog W = .ok .skip W' := by
    simp [execOp, ho, ex, ey, Instr.storeAt, Instr.sureAddr, hr, Result.andThen]
  unfold DoesV
  rw [h]
  exact hG
end
theorem wpList_storeWord {ops : Array Oper} {rest : List Oper} {o : Oper} {a : Act} {w w' : World} {Q : Exit → Act → World → Prop} (hgd : o.guard = none) (x y : Operand) (ho : o.op = .store 25 x y)
    (p : Addr) (u : Wd) (ex : a.eval x = .pointer (some p)) (ey : a.eval y = .agg (wdV u)) (hr : (storeVar 25 p (.agg (wdV u))).run Try.prog w = .ok () w')
    (h : wpList Try.prog ops Q rest (a.put o.dst undef) w') : wpList Try.prog ops Q (o :: rest) a w :=
  wpList_plain hgd fun K hK => by
    unfold Oper.wp
    have h1 : (execOp a.eval o).run Try.prog w = .ok .skip w' := by simp [execOp, ho, ex, ey, Instr.storeAt, Instr.sureAddr, hr, Result.andThen]
    rw [h1]
    exact hK _ _ h
theorem Sl.reads {w : World} {base n g cap : Nat} {S : List Wd} (h : Sl w base 25 4 (.slice (some ⟨g, 0, none⟩) n cap) n (flat S)) (i : Nat) (x : Wd) (hx : S[i]? = some x) : ∀ j u, (wdV x)[j]? = some u → w.cell? ⟨g, i * 4 + j, none⟩ = some u := by
  have hn : n = S.length := by have := h.1; rw [flat_length] at this; omega
  have hi := (List.getElem?_eq_some_iff.1 hx).1
  intro j u hu
  have hj : j < 4 := by have := (Array.getElem?_eq_some_iff.1 hu).1; rwa [wdV_size] at this
  rw [h.cell (i * 4 + j) (by omega), Nat.mul_comm, flat_get S i x hx j hj]
  simpa [wdV] using hu

set_option maxRecDepth 100000 in
set_option maxHeartbeats 8000000 in
theorem swap_any (v : Value) (S : List Wd) (hS : S.length ≤ 5000) (n : Int) (hn : -9223372036854775808 ≤ n) (hn2 : n ≤ 9223372036854775807) (w : World) (h : Ws w v S) :
    Calls Try.prog 15 #[v, .int .i64 n] w fun e W' => ∃ v', e = .returned (.tuple #[v', .int .i64 (swapE S n)]) ∧ Ws W' v' (swapL S n) ∧ Below w.heap.size w W' := by
  have hwr := wrong_any v S n 1 w h
  have hcl := clone_sl v S (by omega) w h
  unfold swapL swapE
  have hB0 := Below.refl w.heap.size w
  by_cases he : wrongE S.length n 1 = 0
  · obtain ⟨h1, h2, h3⟩ := wrongE_zero _ _ _ he
    by_cases hfull : n = S.length
    · rw [if_pos ⟨he, hfull⟩, if_neg (by decide)]
      rw [he] at hwr
      obtain ⟨A, c, rfl, k1, k2, k3⟩ := h.form
      subst hfull
      clear he h1 h2 h3
      generalize S.length = len at *
      go_enter Try.func15, Try.ntmps15
      go_wp2_with fail
      refine hwr.mono ?_
      rintro e w1 ⟨rfl, rfl⟩
      go_wp2_with fail
      refine hcl.mono ?_
      rintro e w1 ⟨v', rfl, hW, hB⟩
      go_wp2_with fail
      go_ret2
      exact ⟨_, rfl, Ws.of_sl hW, hB⟩
    · rw [if_neg (fun h => hfull h.2), he, if_pos rfl]
      rw [he] at hwr
      obtain ⟨m, hm⟩ : ∃ m, n.toNat = m := ⟨_, rfl⟩
      obtain rfl : n = (m : Int) := by omega
      obtain ⟨T, hT⟩ : ∃ T, S.length - 1 = T := ⟨_, rfl⟩
      obtain ⟨q, hq⟩ : ∃ q, T - m = q := ⟨_, rfl⟩
      have hx : S[q]? = some (S.getD q (0, 0, 0, 0)) := by simp [List.getD, show q < S.length by omega]
      have hy : S[T]? = some (S.getD T (0, 0, 0, 0)) := by simp [List.getD, show T < S.length by omega]
      have hto : swapTo S m = (S.set T (S.getD q (0, 0, 0, 0))).set q (S.getD T (0, 0, 0, 0)) := by unfold swapTo; rw [hT, hq]
      rw [hm, hto]
      generalize S.getD q (0, 0, 0, 0) = x at *
      generalize S.getD T (0, 0, 0, 0) = y at *
      clear hto
      have hw1 : IntKind.i64.wrap ((S.length : Int) - 1) = (T : Int) := (IntWalk.i64_in _ (by omega)).trans (by omega)
      have hw2 : IntKind.i64.wrap ((T : Int) - (m : Int)) = (q : Int) := (IntWalk.i64_in _ (by omega)).trans (by omega)
      obtain ⟨A, c, rfl, k1, k2, k3⟩ := h.form
      have hneq : ((m : Int) == (S.length : Int)) = false := by rw [beq_eq_false_iff_ne]; exact hfull
      go_enter Try.func15, Try.ntmps15
      go_wp2_with fail
      refine hwr.mono ?_
      rintro e w1 ⟨rfl, rfl⟩
      go_wp2_with fail
      refine hcl.mono ?_
      rintro e w1 ⟨v', rfl, hW, hB⟩
      obtain ⟨g, cap, rfl, g1, g2, g3, g4⟩ := hW.form (by omega)
      clear hwr hcl
      go_wp2_with fail
      let C : (Nat → Bool) → World → Prop := fun ls W => Sl W w.heap.size 25 4 (.slice (some ⟨g, 0, none⟩) S.length cap) S.length (flat (if ls 17 = true then S.set T x else S)) ∧ Below w.heap.size w W
      have hCi : ∀ (i : Nat) (ls : Nat → Bool) (W : World), i ≠ 17 → C ls W → C (fun k => if k = i then true else ls k) W := by
        intro i ls W hi hC
        show Sl _ _ _ _ _ _ (flat (if (if 17 = i then true else ls 17) = true then _ else _)) ∧ _
        rw [if_neg (Ne.symm hi)]
        exact hC
      refine wp_region_invL_tail 19 _ C (fun _ _ => True) (fv [some (.slice (some ⟨g, 0, none⟩) S.length cap), some (.int .i64 ((T : Nat) : Int)), some (.slice (some ⟨g, 0, none⟩) S.length cap), some (.int .i64 ((T : Nat) : Int)), some (.int .i64 ((m : Nat) : Int)), some (.int .i64 ((q : Nat) : Int)), some (.slice (some ⟨g, 0, none⟩) S.length cap), some (.int .i64 ((T : Nat) : Int)), some (.int .i64 ((m : Nat) : Int)), some (.int .i64 ((q : Nat) : Int)), some (.pointer (some ⟨g, q * 4, none⟩)), some (.agg (wdV x)), some (.slice (some ⟨g, 0, none⟩) S.length cap), some (.int .i64 ((T : Nat) : Int)), some (.pointer (some ⟨g, T * 4, none⟩)), some (.agg (wdV y)), some (.pointer (some ⟨g, T * 4, none⟩)), none, some (.pointer (some ⟨g, q * 4, none⟩))]) (by kernel_rfl) rfl rfl (by kernel_rfl) (by kernel_rfl) ⟨hW.drew, hB.drew⟩ (fun _ _ _ _ _ h => h) ?hop ?hfin
      case hop =>
        intro a W ls hCW hclo hold
        have e0 : a.eval (.tmp 0) = .slice (some ⟨g, 0, none⟩) S.length cap := (hold 0 (by decide)).trans rfl
        have e7 : a.eval (.tmp 7) = .int .i64 ((T : Nat) : Int) := (hold 7 (by decide)).trans rfl
        have e1 : a.eval (.tmp 1) = .int .i64 ((m : Nat) : Int) := (hold 1 (by decide)).trans rfl
        refine ⟨?_, ?_, ?_, ?_, ?_, ?_, ?_, ?_, ?_, ?_, ?_, ?_, ?_, ?_, ?_, ?_, ?_, ?_, ?_, trivial⟩
        · intro hls hp
          exact does_move _ _ rfl e0 ⟨hCi 0 ls W (by decide) hCW, trivial, rfl⟩
        · intro hls hp
          exact does_move _ _ rfl e7 ⟨hCi 1 ls W (by decide) hCW, trivial, rfl⟩
        · intro hls hp
          exact does_move _ _ rfl e0 ⟨hCi 2 ls W (by decide) hCW, trivial, rfl⟩
        · intro hls hp
          exact does_move _ _ rfl e7 ⟨hCi 3 ls W (by decide) hCW, trivial, rfl⟩
        · intro hls hp
          exact does_move _ _ rfl e1 ⟨hCi 4 ls W (by decide) hCW, trivial, rfl⟩
        · intro hls hp
          have e29 := preds_get hp 3 _ rfl rfl
          change a.eval (.tmp 29) = .int .i64 ((T : Nat) : Int) at e29
          have e30 := preds_get hp 4 _ rfl rfl
          change a.eval (.tmp 30) = .int .i64 ((m : Nat) : Int) at e30
          exact does_sub _ _ _ _ _ hw2 rfl e29 e30 ⟨hCi 5 ls W (by decide) hCW, trivial, rfl⟩
        · intro hls hp
          exact does_move _ _ rfl e0 ⟨hCi 6 ls W (by decide) hCW, trivial, rfl⟩
        · intro hls hp
          exact does_move _ _ rfl e7 ⟨hCi 7 ls W (by decide) hCW, trivial, rfl⟩
        · intro hls hp
          exact does_move _ _ rfl e1 ⟨hCi 8 ls W (by decide) hCW, trivial, rfl⟩
        · intro hls hp
          have e33 := preds_get hp 7 _ rfl rfl
          change a.eval (.tmp 33) = .int .i64 ((T : Nat) : Int) at e33
          have e34 := preds_get hp 8 _ rfl rfl
          change a.eval (.tmp 34) = .int .i64 ((m : Nat) : Int) at e34
          exact does_sub _ _ _ _ _ hw2 rfl e33 e34 ⟨hCi 9 ls W (by decide) hCW, trivial, rfl⟩
        · intro hls hp
          have e32 := preds_get hp 6 _ rfl rfl
          change a.eval (.tmp 32) = .slice (some ⟨g, 0, none⟩) S.length cap at e32
          have e35 := preds_get hp 9 _ rfl rfl
          change a.eval (.tmp 35) = .int .i64 ((q : Nat) : Int) at e35
          exact does_at _ _ _ _ _ _ (by omega) rfl e32 e35 ⟨hCi 10 ls W (by decide) hCW, trivial, rfl⟩
        · intro hls hp
          have e36 := preds_get hp 10 _ rfl rfl
          change a.eval (.tmp 36) = .pointer (some ⟨g, q * 4, none⟩) at e36
          have h17 : ls 17 = false := by
            cases h17 : ls 17 with
            | false => rfl
            | true => have := clos_get hclo 17 11 _ rfl rfl h17; rw [hls] at this; cases this
          have hSl := hCW.1
          rw [h17] at hSl
          exact does_loadW _ _ _ x rfl e36 (Sl.reads hSl q x hx) ⟨hCi 11 ls W (by decide) hCW, trivial, rfl⟩
        · intro hls hp
          exact does_move _ _ rfl e0 ⟨hCi 12 ls W (by decide) hCW, trivial, rfl⟩
        · intro hls hp
          exact does_move _ _ rfl e7 ⟨hCi 13 ls W (by decide) hCW, trivial, rfl⟩
        · intro hls hp
          have e38 := preds_get hp 12 _ rfl rfl
          change a.eval (.tmp 38) = .slice (some ⟨g, 0, none⟩) S.length cap at e38
          have e39 := preds_get hp 13 _ rfl rfl
          change a.eval (.tmp 39) = .int .i64 ((T : Nat) : Int) at e39
          exact does_at _ _ _ _ _ _ (by omega) rfl e38 e39 ⟨hCi 14 ls W (by decide) hCW, trivial, rfl⟩
        · intro hls hp
          have e40 := preds_get hp 14 _ rfl rfl
          change a.eval (.tmp 40) = .pointer (some ⟨g, T * 4, none⟩) at e40
          have h17 : ls 17 = false := by
            cases h17 : ls 17 with
            | false => rfl
            | true => have := clos_get hclo 17 15 _ rfl rfl h17; rw [hls] at this; cases this
          have hSl := hCW.1
          rw [h17] at hSl
          exact does_loadW _ _ _ y rfl e40 (Sl.reads hSl T y hy) ⟨hCi 15 ls W (by decide) hCW, trivial, rfl⟩
        · intro hls hp
          have e26 := preds_get hp 0 _ rfl rfl
          change a.eval (.tmp 26) = .slice (some ⟨g, 0, none⟩) S.length cap at e26
          have e27 := preds_get hp 1 _ rfl rfl
          change a.eval (.tmp 27) = .int .i64 ((T : Nat) : Int) at e27
          exact does_at _ _ _ _ _ _ (by omega) rfl e26 e27 ⟨hCi 16 ls W (by decide) hCW, trivial, rfl⟩
        · intro hls hp
          have e42 := preds_get hp 16 _ rfl rfl
          change a.eval (.tmp 42) = .pointer (some ⟨g, T * 4, none⟩) at e42
          have e37 := preds_get hp 11 _ rfl rfl
          change a.eval (.tmp 37) = .agg (wdV x) at e37
          have hSl := hCW.1
          rw [hls, if_neg Bool.false_ne_true] at hSl
          obtain ⟨W2, r1, r2, r3⟩ := run_store_word hSl T (by omega) x
          exact does_storeW _ _ _ x W2 rfl e42 e37 r1 ⟨⟨r2, hCW.2.grown r3 hCW.2.size (fun k e => by cases e; omega)⟩, trivial, trivial⟩
        · intro hls hp
          have e28 := preds_get hp 2 _ rfl rfl
          change a.eval (.tmp 28) = .slice (some ⟨g, 0, none⟩) S.length cap at e28
          have e31 := preds_get hp 5 _ rfl rfl
          change a.eval (.tmp 31) = .int .i64 ((q : Nat) : Int) at e31
          exact does_at _ _ _ _ _ _ (by omega) rfl e28 e31 ⟨hCi 18 ls W (by decide) hCW, trivial, rfl⟩
      case hfin =>
        intro z W ls hCW hls hall
        obtain ⟨-, -, -, -, -, -, -, -, -, -, -, -, -, -, -, z41, -, -, z43, -⟩ := hall
        change z 41 = _ at z41
        change z 43 = _ at z43
        have hSl := hCW.1
        rw [hls 17 (by decide)] at hSl
        have hB2 := hCW.2
        obtain ⟨W2, r1, r2, r3⟩ := run_store_word hSl q (by rw [if_pos rfl, List.length_set]; omega) y
        simp only [dsts, List.take_succ_cons, List.take_zero, List.filterMap_cons, List.filterMap_nil, List.foldl_cons, List.foldl_nil, List.setIfInBounds_toArray, List.set_cons_succ, List.set_cons_zero]
        simp only [z41, z43]
        refine wpList_storeWord rfl _ _ rfl ⟨g, q * 4, none⟩ y rfl rfl r1 ?_
        have hB3 : Below w.heap.size w W2 := hB2.grown r3 hB2.size (fun k e => by cases e; omega)
        go_wp2_with fail
        go_ret2
        exact ⟨_, rfl, Ws.of_sl r2, hB3⟩
  · rw [if_neg (fun h => he h.1), if_neg he]
    have hne : (wrongE S.length n 1 == 0) = false := by rw [beq_eq_false_iff_ne]; exact he
    generalize wrongE S.length n 1 = ee at *
    obtain ⟨A, c, rfl, k1, k2, k3⟩ := h.form
    go_enter Try.func15, Try.ntmps15
    go_wp2_with fail
    refine hwr.mono ?_
    rintro e w1 ⟨rfl, rfl⟩
    go_wp2_with fail
    refine hcl.mono ?_
    rintro e w1 ⟨v', rfl, hW, hB⟩
    go_wp2_with fail
    go_ret2
    exact ⟨_, rfl, Ws.of_sl hW, hB⟩
end Go.Proofs.Ythfopoeahphnjaa
