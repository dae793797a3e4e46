/- StackParts, by its walk. -/
import Derived.Test.YthfopoeahphnjaaXb
namespace Go.Proofs.Ythfopoeahphnjaa
open Go.RowKit Go.Shelf
set_option linter.unusedVariables false
set_option linter.unusedSimpArgs false
attribute [local go_sem] wdV_size fold_word

/-! the plain law -/
/-- What was swapped, step by step, all the way down to the m-th. -/
def down (S : List Wd) : Nat → List Wd
  | 0 => S
  | m + 1 => swapTo (down S m) (m + 1)
theorem down_length (S : List Wd) (m : Nat) : (down S m).length = S.length := by
  induction m with
  | zero => rfl
  | succ m ih => rw [down, swapTo_length, ih]
theorem swapTo_get (S : List Wd) (k i : Nat) (h1 : 1 ≤ k) (hk : k < S.length) : (swapTo S k)[i]? = if i = S.length - 1 - k then S[S.length - 1]? else if i = S.length - 1 then S[S.length - 1 - k]? else S[i]? := by
  unfold swapTo
  simp only [List.getD_eq_getElem?_getD, List.getElem?_set, List.length_set]
  have a1 : S.length - 1 < S.length := by omega
  have a2 : S.length - 1 - k < S.length := by omega
  by_cases h2 : i = S.length - 1 - k
  · subst h2
    simp [a1, a2]
  · rw [if_neg (fun e => h2 e.symm), if_neg h2]
    by_cases h3 : i = S.length - 1
    · subst h3
      simp [a1, a2]
    · rw [if_neg (fun e => h3 e.symm), if_neg h3]
theorem down_get (S : List Wd) (m i : Nat) (hm : m + 1 ≤ S.length) (hi : i < S.length) : (down S m)[i]? = if i = S.length - 1 then S[S.length - 1 - m]? else if S.length - 1 - m ≤ i then S[i + 1]? else S[i]? := by
  induction m generalizing i with
  | zero =>
    rw [down]
    by_cases h : i = S.length - 1
    · rw [if_pos h, h]; rfl
    · rw [if_neg h, if_neg (by omega)]
  | succ m ih =>
    have hl := down_length S m
    rw [down, swapTo_get _ _ _ (by omega) (by omega), hl]
    by_cases h1 : i = S.length - 1 - (m + 1)
    · rw [if_pos h1, ih _ (by omega) (by omega), if_pos rfl, if_neg (by omega), if_pos (by omega)]
      congr 1
      omega
    · rw [if_neg h1]
      by_cases h2 : i = S.length - 1
      · rw [if_pos h2, if_pos h2, ih _ (by omega) (by omega), if_neg (by omega), if_neg (by omega)]
      · rw [if_neg h2, if_neg h2, ih _ (by omega) (by omega), if_neg h2]
        by_cases h3 : S.length - 1 - m ≤ i
        · rw [if_pos h3, if_pos (by omega)]
        · rw [if_neg h3, if_neg (by omega)]
theorem down_all (S : List Wd) (i : Nat) (hi : i < S.length) : (down S (S.length - 1))[i]? = S[(i + 1) % S.length]? := by
  rw [down_get _ _ _ (by omega) hi]
  by_cases h : i = S.length - 1
  · rw [if_pos h, h, show S.length - 1 + 1 = S.length by omega, Nat.mod_self]
    congr 1
    omega
  · rw [if_neg h, if_pos (by omega), Nat.mod_eq_of_lt (by omega)]
theorem pop_at (S : List Wd) (n : Nat) (h : S.length ≤ 1024) (hn : n ≤ S.length) : popE S (n : Int) = 0 ∧ popA S (n : Int) = S.take (S.length - n) ∧ popB S (n : Int) = (S.drop (S.length - n)).reverse := by
  have e : popE S (n : Int) = 0 := wrong_ok _ _ _ (by omega) (by omega) (by omega)
  exact ⟨e, by unfold popA; rw [if_pos e]; rfl, by unfold popB; rw [if_pos e]; rfl⟩

theorem wpList_append_WsW {ops : Array Oper} {rest : List Oper} {o : Oper} {a : Act} {w : World} {Q : Exit → Act → World → Prop} (hw : Region.wanted o (yielded ops a.tmps) = true) (s x : Operand)
    (ho : o.op = .call { callee := .builtin .append, args := #[s, x], argTypes := #[27, 27] }) (base : Nat) (v : Value) (L : List Wd) (hs : a.eval s = v) (hown : Sl w base 25 4 v L.length (flat L))
    (u : Value) (M : List Wd) (hx : a.eval x = u) (hM : Ws w u M) (hlen : L.length + M.length ≤ 200000) (hbase : base ≤ w.heap.size)
    (h : ∀ v' w', Sl w' base 25 4 v' (L ++ M).length (flat (L ++ M)) → Below base w w' → wpList Try.prog ops Q rest (a.put o.dst v') w') : wpList Try.prog ops Q (o :: rest) a w := by
  obtain ⟨i0, hi, hz0, hz1, hz2⟩ := info_parts infoz25
  have hrun : ∃ v' w', (Builtin.append_ #[27, 27] o.type #[v, u]).run Try.prog w = .ok v' w' ∧ Sl w' base 25 4 v' (L ++ M).length (flat (L ++ M)) ∧ Below base w w' := by
    rcases hM with ⟨rfl, rfl⟩ | ⟨g, off, c, rfl, h2, h3, h4, h5⟩
    · refine ⟨v, w, run_append_Sl_none i0 hi _ hown, by rw [List.append_nil]; exact hown, Below.refl _ _⟩
    · have hW : Ws w (.slice (some ⟨g, off, none⟩) M.length c) M := .inr ⟨g, off, c, rfl, h2, h3, h4, h5⟩
      obtain ⟨v', w', r1, r2, r3, _⟩ := run_append_Sl (P := Try.prog) w base 27 o.type 25 i0 (.agg (wdV (0, 0, 0, 0))) 4 32 Try.underlying27 hi hz0 hz1 hz2 rfl (by decide) v L.length (flat L) hown ⟨g, off, none⟩ M.length c (flat M) (by rw [flat_length]; omega) hW.news (flat_ok M) (by unfold maxLen; omega) (by omega) hbase
      refine ⟨v', w', r1, by rw [flat_append, List.length_append]; exact r2, (Below.refl base w).grown r3 hbase (fun k e => (hown.lt k e).1)⟩
  obtain ⟨v', w', r1, r2, r3⟩ := hrun
  exact BigFrame.wpList_want hw fun _ hK => by
    unfold Oper.wp execOp
    simp only [ho, resolve, invoke, builtin, Sem.run_bind, Sem.run_pure, Result.andThen_ok, List.map_toArray, List.map_cons, List.map_nil, hs, hx, r1]
    exact hK _ _ (h v' w' r2 r3)
theorem wpList_sliceRun {ops : Array Oper} {rest : List Oper} {o : Oper} {a : Act} {w : World} {Q : Exit → Act → World → Prop} (hgd : o.guard = none) (t : TypeId) (x : Operand) (lo hi mx : Option Operand)
    (ho : o.op = .slice t x lo hi mx) (v : Value) (l1 l2 l3 : Option Value) (r : Value) (hx : a.eval x = v) (hl : lo.map a.eval = l1) (hh : hi.map a.eval = l2) (hm : mx.map a.eval = l3)
    (hr : (Instr.sliceAt t v l1 l2 l3).run Try.prog w = .ok r w)
    (h : wpList Try.prog ops Q rest (a.put o.dst r) w) : wpList Try.prog ops Q (o :: rest) a w :=
  wpList_plain hgd fun K hK => by
    unfold Oper.wp execOp
    simp only [ho, hx, hl, hh, hm, Sem.run_bind, Sem.run_pure, Result.andThen_ok, hr]
    exact hK _ _ h

set_option maxRecDepth 100000 in
set_option maxHeartbeats 8000000 in
theorem parts_true (v1 v2 : Value) (l1 l2 : List Int) (n : Int) (hn : -9223372036854775808 ≤ n) (hn2 : n ≤ 9223372036854775807) (w : World) (g1 : Is w v1 l1) (g2 : Is w v2 l2) :
    Calls Try.prog 5 #[v1, v2, .int .i64 n] w fun e W' => e = .returned (.bool true) ∧ Below w.heap.size w W' := by
  obtain ⟨i0, hi, hz0, hz1, hz2⟩ := info_parts infoz25
  have hs1 := fun w => stack_any v1 l1 false 0 (by decide) (by decide) w
  have hs2 := fun w => stack_any v2 l2 false 0 (by decide) (by decide) w
  have hSl := base_le l1
  have hLl := base_le l2
  generalize stackL l1 false 0 = S at *
  generalize stackL l2 false 0 = L at *
  obtain ⟨N, hN⟩ : ∃ N, L.length = N := ⟨_, rfl⟩
  obtain ⟨M, hM⟩ : ∃ M, S.length = M := ⟨_, rfl⟩
  obtain ⟨k, hk, hpr⟩ := pick_nat n (N + 1) (by omega) (by omega) hn hn2
  have hpr' : ∀ w, Calls Try.prog 12 #[.int .i64 n, .int .i64 ((N + 1 : Nat) : Int)] w fun e W' => e = .returned (.int .i64 k) ∧ w = W' := hpr
  clear hpr
  obtain ⟨d, hd⟩ : ∃ d, N - k = d := ⟨_, rfl⟩
  have i1 : IntKind.i64.wrap ((N : Int) + 1) = ((N + 1 : Nat) : Int) := (IntWalk.i64_in _ (by omega)).trans (by omega)
  have i2 : IntKind.i64.wrap ((N : Int) - (k : Int)) = (d : Int) := (IntWalk.i64_in _ (by omega)).trans (by omega)
  have hB0 := Below.refl w.heap.size w
  go_enter Try.func5, Try.ntmps5
  go_wp2_with fail
  refine (awake_any _).mono ?_
  rintro e w1 ⟨rfl, B1⟩
  have g1 := g1.below B1 (Nat.le_refl _)
  have g2 := g2.below B1 (Nat.le_refl _)
  go_wp2_with fail
  refine (hs1 _ g1).mono ?_
  rintro e w2 ⟨vs, rfl, hs, hb⟩
  have B2 := B1.trans (hb.mono B1.size)
  have g2 := g2.below hb (Nat.le_refl _)
  clear hb B1 g1 hs1 hB0
  go_wp2_with fail
  refine (hs2 _ g2).mono ?_
  rintro e w3 ⟨vl, rfl, hl, hb⟩
  have B3 := B2.trans (hb.mono B2.size)
  have hs := hs.later hb
  clear hb B2 g2 hs2
  obtain ⟨Al, cl, rfl, l1', l2', l3'⟩ := hl.form
  obtain ⟨As, cs, rfl, s1', s2', s3'⟩ := hs.form
  rw [hN] at hl l1' hLl
  rw [hM] at hs s1' hSl
  rw [hN, hM]
  go_wp2_with fail
  refine (hpr' _).mono ?_
  rintro e w' ⟨rfl, rfl⟩
  clear hpr' i1
  go_wp2_with fail
  refine (push_any _ _ _ _ (by omega) (by omega) _ hs hl).mono ?_
  rintro e w4 ⟨va, rfl, ha, hb⟩
  have B4 := B3.trans (hb.mono B3.size)
  have hs := hs.later hb
  have hl := hl.later hb
  clear hb B3
  obtain ⟨e1, e2⟩ := push_ok S L (by omega)
  rw [e2] at ha
  rw [e1]
  clear e1 e2
  obtain ⟨A1, c1, ht1, ht2⟩ := run_take _ _ L k (by omega) hl
  go_wp2_with (with_reducible show wpList _ _ _ (⟨some 52, _, _, _, _, _⟩ :: _) _ _; refine wpList_sliceRun rfl 27 _ _ _ _ rfl (.slice Al N cl) none (some (.int .i64 k)) none _ rfl rfl rfl rfl (ht1 _) ?_)
  refine (push_any _ _ _ _ (by omega) (by rw [List.length_take]; omega) _ hs ht2).mono ?_
  rintro e w5 ⟨vb, rfl, hb5, hb⟩
  have B5 := B4.trans (hb.mono B4.size)
  have hs := hs.later hb
  have hl := hl.later hb
  have ha := ha.later hb
  clear hb B4 ht1 ht2
  obtain ⟨e1, e2⟩ := push_ok S (L.take k) (by rw [List.length_take]; omega)
  rw [e2] at hb5
  rw [e1]
  clear e1 e2
  obtain ⟨A2, c2, ht1, ht2⟩ := run_drop _ _ L k (by omega) hl
  rw [hN, hd] at ht1 ht2
  go_wp2_with (with_reducible show wpList _ _ _ (⟨some 60, _, _, _, _, _⟩ :: _) _ _; refine wpList_sliceRun rfl 27 _ _ _ _ rfl (.slice Al N cl) (some (.int .i64 k)) none none _ rfl rfl rfl rfl (ht1 _) ?_)
  refine (push_any _ _ _ _ (by rw [List.length_append, List.length_take]; omega) (by rw [List.length_drop]; omega) _ hb5 ht2).mono ?_
  rintro e w6 ⟨vc, rfl, hc, hb⟩
  have B6 := B5.trans (hb.mono B5.size)
  have hs := hs.later hb
  have ha := ha.later hb
  clear hb B5 ht1 ht2 hb5
  obtain ⟨e1, e2⟩ := push_ok (S ++ L.take k) (L.drop k) (by rw [List.length_append, List.length_take, List.length_drop]; omega)
  rw [e2, List.append_assoc, List.take_append_drop] at hc
  rw [e1]
  clear e1 e2 hl
  obtain ⟨Q, hQ⟩ : ∃ Q, S ++ L = Q := ⟨_, rfl⟩
  have hQl : Q.length = M + N := by rw [← hQ, List.length_append, hM, hN]
  have hpN := fun W h => pop_any va Q (by omega) (N : Int) (by omega) (by omega) W h
  have hpd := fun W h => pop_any va Q (by omega) (d : Int) (by omega) (by omega) W h
  obtain ⟨e1, e2, e3⟩ := pop_at Q N (by omega) (by omega)
  rw [e1, e2, e3] at hpN
  obtain ⟨e1, e2, e3⟩ := pop_at Q d (by omega) (by omega)
  rw [e1, e2, e3] at hpd
  clear e1 e2 e3
  have hpk := fun v W h => pop_any v (Q.take (Q.length - d)) (by rw [List.length_take]; omega) (k : Int) (by omega) (by omega) W h
  obtain ⟨e1, e2, e3⟩ := pop_at (Q.take (Q.length - d)) k (by rw [List.length_take]; omega) (by rw [List.length_take]; omega)
  rw [e1, e2, e3] at hpk
  clear e1 e2 e3
  have f1 : (Q.take (Q.length - d)).take ((Q.take (Q.length - d)).length - k) = Q.take (Q.length - N) := by
    rw [List.take_take, List.length_take, hQl]
    congr 1
    omega
  have f2 : (Q.drop (Q.length - d)).reverse ++ ((Q.take (Q.length - d)).drop ((Q.take (Q.length - d)).length - k)).reverse = (Q.drop (Q.length - N)).reverse := by
    rw [← List.reverse_append]
    congr 1
    have hh : (Q.take (Q.length - d)).length - k = Q.length - N := by rw [List.length_take]; omega
    rw [hh]
    have h3 := List.drop_append_of_le_length (l₁ := Q.take (Q.length - d)) (l₂ := Q.drop (Q.length - d)) (i := Q.length - N) (by rw [List.length_take]; omega)
    rw [List.take_append_drop] at h3
    exact h3.symm
  have q1 : ((Q.drop (Q.length - d)).reverse).length ≤ 100 := by rw [List.length_reverse, List.length_drop]; omega
  have q2 : (((Q.take (Q.length - d)).drop ((Q.take (Q.length - d)).length - k)).reverse).length ≤ 100 := by rw [List.length_reverse, List.length_drop, List.length_take]; omega
  rw [f1] at hpk
  rw [hQ] at ha hc
  clear f1 hQl hQ
  generalize Q.take (Q.length - d) = Y at *
  generalize (Q.drop (Q.length - d)).reverse = Y1 at *
  generalize (Y.drop (Y.length - k)).reverse = Y2 at *
  generalize Q.take (Q.length - N) = X at *
  generalize (Q.drop (Q.length - N)).reverse = X1 at *
  go_wp2_with fail
  refine (hpN _ ha).mono ?_
  rintro e w7 ⟨vx, vp, rfl, hx, hp, hb⟩
  have B7 := B6.trans (hb.mono B6.size)
  have hs := hs.later hb
  have ha := ha.later hb
  have hc := hc.later hb
  clear hb B6 hpN
  go_wp2_with fail
  refine (hpd _ ha).mono ?_
  rintro e w8 ⟨vy, vq, rfl, hy, hq, hb⟩
  have B8 := B7.trans (hb.mono B7.size)
  have hs := hs.later hb
  have ha := ha.later hb
  have hc := hc.later hb
  have hx := hx.later hb
  have hp := hp.later hb
  clear hb B7 hpd i2
  go_wp2_with fail
  refine (hpk _ _ hy).mono ?_
  rintro e w9 ⟨vz, vr, rfl, hz, hr, hb⟩
  have B9 := B8.trans (hb.mono B8.size)
  have hs := hs.later hb
  have ha := ha.later hb
  have hc := hc.later hb
  have hx := hx.later hb
  have hp := hp.later hb
  have hq := hq.later hb
  clear hb B8 hpk hy
  have hsame := same_any _ _ _ _ _ ha hc
  rw [decide_eq_true (show Q = Q from rfl)] at hsame
  go_wp2_with fail
  refine hsame.mono ?_
  rintro e w10 ⟨rfl, hb⟩
  have B10 := B9.trans (hb.mono B9.size)
  have hs := hs.later hb
  have hx := hx.later hb
  have hp := hp.later hb
  have hq := hq.later hb
  have hz := hz.later hb
  have hr := hr.later hb
  clear hb B9 hsame ha hc
  have hsame := same_any _ _ _ _ _ hx hz
  rw [decide_eq_true (show X = X from rfl)] at hsame
  go_wp2_with fail
  refine hsame.mono ?_
  rintro e w11 ⟨rfl, hb⟩
  have B11 := B10.trans (hb.mono B10.size)
  have hs := hs.later hb
  have hp := hp.later hb
  have hq := hq.later hb
  have hr := hr.later hb
  clear hb B10 hsame hx hz
  have hS0 : Sl w11 w11.heap.size 25 4 (.slice none 0 0) ([] : List Wd).length (flat []) := Sl.nil_ _ _ _ _
  go_wp2_with (at_builtin; refine wpList_append_WsW (by rfl) _ _ rfl w11.heap.size _ [] rfl hS0 _ Y1 rfl hq ?d1 (Nat.le_refl _) ?_)
  case d1 => simp; omega
  intro v12 w12 hS1 hb1
  have hr := hr.later hb1
  have hbs := hb1.size
  go_wp2_with (at_builtin; refine wpList_append_WsW (by rfl) _ _ rfl w11.heap.size _ Y1 rfl hS1 _ Y2 rfl hr ?d1 hbs ?_)
  case d1 => omega
  intro v13 w13 hS2 hb2
  have hb := hb1.trans hb2
  have B12 := B11.trans (hb.mono B11.size)
  have hs := hs.later hb
  have hp := hp.later hb
  have hY := Ws.of_sl hS2
  clear hb hb1 hb2 hbs hS2 hS1 hr hq B11 hS0 f2 q1 q2
  have hsame := same_any _ _ _ _ _ hp hY
  rw [decide_eq_true (show X1 = X1 from rfl)] at hsame
  go_wp2_with fail
  refine hsame.mono ?_
  rintro e w14 ⟨rfl, hb⟩
  have B14 := B12.trans (hb.mono B12.size)
  have hs := hs.later hb
  clear hb B12 hsame hp hY
  go_wp2_with fail
  go_loopw [26, 27] (fun t i wr => ∃ m : Nat, (m + 1 ≤ M ∨ m = 0) ∧ i = .int .i64 ((m + 1 : Nat) : Int) ∧ Ws wr t (down S m) ∧ Below w14.heap.size w14 wr)
    (fun _ i _ => M - (intOf i).toNat)
  case atStart => exact ⟨0, .inr rfl, rfl, hs, Below.refl _ _⟩
  case round =>
    obtain ⟨m, hm, rfl, ht, hB⟩ := hrel
    obtain ⟨m1, hm1⟩ : ∃ q, m + 1 = q := ⟨_, rfl⟩
    rw [hm1]
    by_cases hlt : m1 < M
    · have hdl := down_length S m
      have hsw := swap_any _ _ (by omega) (m1 : Int) (by omega) (by omega) _ ht
      obtain ⟨e1, e2⟩ := swap_in (down S m) m1 (by omega) (by omega) (by omega)
      rw [e1, e2, show swapTo (down S m) m1 = down S (m + 1) from by rw [← hm1]; rfl] at hsw
      clear e1 e2
      have i3 : IntKind.i64.wrap ((m1 : Int) + 1) = ((m1 + 1 : Nat) : Int) := (IntWalk.i64_in _ (by omega)).trans (by omega)
      have j1 : (m1 : Int) < (M : Int) := by omega
      go_wp2_with fail
      refine hsw.mono ?_
      rintro e w15 ⟨vu, rfl, hu, hb⟩
      obtain ⟨Au, cu, rfl, u1, u2, u3⟩ := hu.form
      rw [down_length, hM] at u1 hu
      rw [down_length, hM]
      have hB := hB.trans (hb.mono hB.size)
      clear hb hsw ht
      go_wp2_with fail
      go_roundw
      case rel => exact ⟨m + 1, .inl (by omega), by rw [hm1]; go_num, hu, hB⟩
      case measure => simp [intOf]; omega
    · have hm' : m = M - 1 := by omega
      rw [hm', ← hM] at ht
      have j1 : ¬ (m1 : Int) < (M : Int) := by omega
      have B15 := B14.trans (hB.mono B14.size)
      have hs := hs.later hB
      have hdl := down_length S (S.length - 1)
      have hda := down_all S
      obtain ⟨At, ct, rfl, t1, t2, t3⟩ := ht.form
      rw [hdl] at ht t1
      rw [hdl]
      rw [hM] at ht t1 hda hdl
      rw [hM]
      clear B14 hB hm'
      generalize down S (M - 1) = D at *
      go_wp2_with fail
      go_loopw [30] (fun i wv => ∃ j : Nat, j ≤ M ∧ i = .int .i64 j ∧ Below wr.heap.size wr wv)
        (fun i _ => M - (intOf i).toNat)
      case atStart => exact ⟨0, by omega, rfl, Below.refl _ _⟩
      case round =>
        obtain ⟨j, hj, rfl, hB⟩ := hrel
        have hs := hs.later hB
        have ht := ht.later hB
        have B16 := B15.trans (hB.mono B15.size)
        by_cases hjl : j < M
        · have j2 : (j : Int) < (M : Int) := by omega
          obtain ⟨q, hq⟩ : ∃ q, (j + 1) % M = q := ⟨_, rfl⟩
          have hqM : q < M := by rw [← hq]; exact Nat.mod_lt _ (by omega)
          have j3 : (q : Int) < (M : Int) := by omega
          have j4 : ((M : Int) = 0) = False := eq_false (by omega)
          have i3 : IntKind.i64.wrap ((j : Int) + 1) = ((j + 1 : Nat) : Int) := (IntWalk.i64_in _ (by omega)).trans (by omega)
          have i4 : Int.tmod ((j + 1 : Nat) : Int) (M : Int) = (q : Int) := by rw [← hq]; rfl
          have i5 : ((j : Int) + 1) % (M : Int) = (q : Int) := by rw [← hq]; rfl
          obtain ⟨y, hy⟩ : ∃ y, S[q]? = some y := ⟨_, List.getElem?_eq_getElem (by omega)⟩
          have hy2 : D[j]? = some y := by rw [hda j hjl, hq, hy]
          obtain ⟨gs, os, rfl⟩ : ∃ g off, As = some ⟨g, off, none⟩ := by
            rcases hs with ⟨_, e⟩ | ⟨g, off, _, e, _⟩
            · rw [e] at hM; simp at hM; omega
            · exact ⟨g, off, (Value.slice.inj e).1⟩
          obtain ⟨gt, ot, rfl⟩ : ∃ g off, At = some ⟨g, off, none⟩ := by
            rcases ht with ⟨_, e⟩ | ⟨g, off, _, e, _⟩
            · rw [e] at hdl; simp at hdl; omega
            · exact ⟨g, off, (Value.slice.inj e).1⟩
          have c1 := hs.at_ q y hy
          rw [Nat.mul_comm] at c1
          go_wp2_with (first
            | (with_reducible show wpList _ _ _ (⟨some 168, _, _, _, _, _⟩ :: _) _ _; refine wpList_loadWord rfl _ rfl gs (os + q * 4) rfl y c1 ?_)
            | (with_reducible show wpList _ _ _ (⟨none, _, _, _, _, _⟩ :: _) _ _; refine wpList_storeRow rfl 25 _ _ rfl wr.heap.size (wdV y) rfl rfl 25 _ (Holds_.new wr 25 _) ?s1 ?s2 (wdV_one y) ?_))
          case s1 => simpa [wdV_size] using info25
          case s2 => simp [wdV_size]
          refine wp_abs (fun W => Holds_ W wr.heap.size 25 (wdV y) ∧ Ws W (.slice (some ⟨gt, ot, none⟩) M ct) D ∧ Below wr.heap.size wr W) ?f0 ?g0
          case f0 =>
            have hb := below_putRow ((Below.refl wr.heap.size wr).alloc (Nat.le_refl _) (.cells #[.int .u64 0, .int .u64 0, .int .u64 0, .int .u64 0] 25)) (Nat.le_refl _) (wdV y)
            exact ⟨(Holds_.new wr 25 _).putRow _, ht.later hb, hb⟩
          rintro W ⟨hH, hT, hBW⟩
          have B17 := B16.trans (hBW.mono B16.size)
          have heq := fun W => run_equalIn_word W y y
          rw [decide_eq_true (show y = y from rfl)] at heq
          have c2 : ∀ V, (Keep W V ∧ Below w.heap.size w V) → ∀ i u, (wdV y)[i]? = some u → V.cell? ⟨gt, ot + j * 4 + i, none⟩ = some u := fun V hV => by
            have := (hT.later hV.1).at_ j y hy2
            rw [Nat.mul_comm] at this
            exact this
          have c3 : ∀ V, (Keep W V ∧ Below w.heap.size w V) → ∀ i u, (wdV y)[i]? = some u → V.cell? ⟨wr.heap.size, 0 + i, none⟩ = some u := fun V hV i u hu => by
            rw [Nat.zero_add]
            exact ((hH.below hV.1 hH.lt).cell i).trans hu
          clear hs ht c1
          go_wp2_with fail
          refine wp_region_quiet_class (fun V => Keep W V ∧ Below w.heap.size w V) (by kernel_rfl) (by kernel_rfl) ⟨(Below.refl _ _).drew, B17.drew⟩ ?_
          refine BigFrame.wpQuiet_want rfl (fun K hK => ?_)
          refine BigFrame.quiet_move _ rfl ?_
          go_simp; refine hK _ ?_; clear hK K
          refine BigFrame.wpQuiet_want rfl (fun K hK => ?_)
          refine BigFrame.quiet_move _ rfl ?_
          go_simp; refine hK _ ?_; clear hK K
          refine BigFrame.wpQuiet_want rfl (fun K hK => ?_)
          refine quiet_run (.pointer (some ⟨gt, ot + j * 4, none⟩)) (fun W hW => by go_simp) ?_
          go_simp; refine hK _ ?_; clear hK K
          refine BigFrame.wpQuiet_want rfl (fun K hK => ?_)
          refine quiet_load_word _ rfl gt (ot + j * 4) rfl y (fun W hW => c2 W hW) ?_
          go_simp; refine hK _ ?_; clear hK K
          refine BigFrame.wpQuiet_want rfl (fun K hK => ?_)
          refine quiet_load_word _ rfl wr.heap.size (0) rfl y (fun W hW => c3 W hW) ?_
          go_simp; refine hK _ ?_; clear hK K
          refine BigFrame.wpQuiet_want rfl (fun K hK => ?_)
          refine quiet_run (.bool false) (fun W hW => by go_simp) ?_
          go_simp; refine hK _ ?_; clear hK K
          refine wpQuiet_nil ?_
          rintro Wz ⟨hkz, hbz⟩
          have hBz := (hB.trans (hBW.mono hB.size)).trans (hkz.mono (hB.trans (hBW.mono hB.size)).size)
          go_wp2_with fail
          go_roundw
          case rel => exact ⟨j + 1, by omega, by go_num, hBz⟩
          case measure => simp [intOf]; omega
        · obtain rfl : j = M := by omega
          go_wp2_with fail
          go_ret
          exact ⟨rfl, B16⟩
end Go.Proofs.Ythfopoeahphnjaa
