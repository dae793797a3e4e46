/- StackDeep, by its walk. -/
import Derived.Test.YthfopoeahphnjaaSi
namespace Go.Proofs.Ythfopoeahphnjaa
open Go.RowKit Go.Shelf
set_option linter.unusedVariables false
set_option linter.unusedSimpArgs false
attribute [local go_sem] wdV_size fold_word

theorem push_ok (S L : List Wd) (h : S.length + L.length ≤ 1024) : pushE S L = 0 ∧ pushL S L = S ++ L := by
  have e : pushE S L = 0 := by unfold pushE; rw [if_neg (by omega), if_neg (by omega)]
  exact ⟨e, by unfold pushL; rw [if_pos e]⟩
theorem push_over (S L : List Wd) (h0 : S.length ≤ 1024) (h : 1024 < S.length + L.length) : pushE S L = 41 ∧ pushL S L = S := by
  have e : pushE S L = 41 := by unfold pushE; rw [if_neg (by omega), if_pos (by omega)]
  exact ⟨e, by unfold pushL; rw [if_neg (by rw [e]; decide)]⟩
theorem wrong_ok (M n least : Int) (h1 : M ≤ 1024) (h2 : least ≤ n) (h3 : n ≤ M) : wrongE M n least = 0 := by
  unfold wrongE
  rw [if_neg (by omega), if_neg (by omega)]
theorem Is.nil_ (w : World) : Is w (.slice none 0 0) [] := ⟨none, 0, rfl, by simp, by simp, by simp⟩

set_option maxRecDepth 100000 in
set_option maxHeartbeats 8000000 in
theorem deep_true (less n : Int) (hl : -9223372036854775808 ≤ less) (hl2 : less ≤ 9223372036854775807) (hn : -9223372036854775808 ≤ n) (hn2 : n ≤ 9223372036854775807) (w : World) :
    Calls Try.prog 6 #[.int .i64 less, .int .i64 n] w fun e W' => e = .returned (.bool true) ∧ Below w.heap.size w W' := by
  obtain ⟨i0, hi, hz0, hz1, hz2⟩ := info_parts infoz25
  obtain ⟨p, hp, hpick⟩ := pick_nat less 3 (by decide) (by decide) hl hl2
  have hpick' : ∀ w, Calls Try.prog 12 #[.int .i64 less, .int .i64 3] w fun e W' => e = .returned (.int .i64 p) ∧ w = W' := hpick
  obtain ⟨k, hk, hpk⟩ := pick_nat n 4 (by decide) (by decide) hn hn2
  have hpk' : ∀ w, Calls Try.prog 12 #[.int .i64 n, .int .i64 4] w fun e W' => e = .returned (.int .i64 k) ∧ w = W' := hpk
  obtain ⟨r, hr, hpr⟩ := pick_nat n 16 (by decide) (by decide) hn hn2
  have hpr' : ∀ w, Calls Try.prog 12 #[.int .i64 n, .int .i64 16] w fun e W' => e = .returned (.int .i64 r) ∧ w = W' := hpr
  clear hpick hpk hpr
  have hw1 : IntKind.i64.wrap (1 + (p : Int)) = ((1 + p : Nat) : Int) := (IntWalk.i64_in _ (by omega)).trans (by omega)
  have hw2 : IntKind.i64.wrap (1 + (r : Int)) = ((1 + r : Nat) : Int) := (IntWalk.i64_in _ (by omega)).trans (by omega)
  have hstk := fun w => stack_any (.slice none 0 0) [] true ((1 + p : Nat) : Int) (by omega) (by omega) w (Is.nil_ w)
  have hgo : goal ((1 + p : Nat) : Int) = 1024 - p := by
    unfold goal pickS
    rw [if_neg (by omega)]
    omega
  have hSl : (stackL [] true ((1 + p : Nat) : Int)).length = 1024 - p := by
    show (moreL (baseL []) (goal _)).length = _
    rw [moreL_length _ _ (by rw [hgo]; simp [baseL]), hgo]
  clear hgo
  generalize stackL [] true ((1 + p : Nat) : Int) = S at *
  obtain ⟨M, hM⟩ : ∃ M, 1024 - p = M := ⟨_, rfl⟩
  rw [hM] at hSl
  have hM1 : 1022 ≤ M ∧ M ≤ 1024 := by omega
  clear hM
  generalize 1 + p = p1 at *
  obtain ⟨d, hd⟩ : ∃ d, 1 + r = d := ⟨_, rfl⟩
  rw [hd] at hw2
  have hof := fun w => of_any 7 (by decide) (by decide) w
  generalize ofI 7 = x at *
  have hB0 := Below.refl w.heap.size w
  go_enter Try.func6, Try.ntmps6
  go_wp2_with fail
  refine (awake_any _).mono ?_
  rintro e w1 ⟨rfl, B1⟩
  go_wp2_with fail
  refine (hpick' _).mono ?_
  rintro e w2 ⟨rfl, rfl⟩
  go_wp2_with fail
  refine (hstk _).mono ?_
  rintro e w2 ⟨vs, rfl, hs, hb⟩
  have B2 := B1.trans (hb.mono B1.size)
  clear hb B1 hstk
  obtain ⟨As, cs, rfl, s1, s2, s3⟩ := hs.form
  rw [hSl] at s1 hs
  rw [hSl]
  go_wp2_with fail
  refine (hof _).mono ?_
  rintro e w3 ⟨rfl, hb⟩
  have B3 := B2.trans (hb.mono B2.size)
  have hs := hs.later hb
  clear hb B2
  go_wp2_with (with_reducible show wpList _ _ _ (⟨none, _, _, _, _, _⟩ :: _) _ _; refine wpList_storeRow rfl 25 _ _ rfl w3.heap.size (wdV x) rfl rfl 25 _ (Holds_.new w3 25 _) ?s1 ?s2 (wdV_one x) ?_)
  case s1 => simpa [wdV_size] using info25
  case s2 => simp [wdV_size]
  refine calls_abs (fun W => Holds_ W w3.heap.size 25 (wdV x) ∧ Ws W (.slice As M cs) S ∧ Below w.heap.size w W) ?f0 ?g0
  case f0 => exact ⟨(Holds_.new w3 25 _).putRow _, hs.later (below_putRow ((Below.refl _ _).alloc (Nat.le_refl _) _) (Nat.le_refl _) _), below_putRow (B3.alloc B3.size _) B3.size _⟩
  rintro W ⟨hx, hs, B4⟩
  clear B3
  generalize w3.heap.size = bx at *
  refine (hpk' _).mono ?_
  rintro e w4 ⟨rfl, rfl⟩
  go_wp2_with fail
  have hbx : bx < W.heap.size := hx.lt
  go_loopw [10, 11] (fun v i wr => ∃ j : Nat, j ≤ k ∧ i = .int .i64 j ∧ Sl wr W.heap.size 25 4 v j (flat (List.replicate j x)) ∧ Below W.heap.size W wr)
    (fun _ i _ => k - (intOf i).toNat)
  case atStart => exact ⟨0, by omega, rfl, Sl.nil_ _ _ _ _, Below.refl _ _⟩
  case round =>
    obtain ⟨j, hj, rfl, hS, hB⟩ := hrel
    by_cases hlt : j < k
    · have hX := hx.below hB hbx
      have hjk : (j : Int) < (k : Int) := by omega
      have hsz := hB.size
      go_wp2_with (first
        | (with_reducible show wpList _ _ _ (⟨some 32, _, _, _, _, _⟩ :: _) _ _; refine wpList_loadRow rfl 25 _ rfl bx rfl 25 _ _ hX Try.underlying25 rfl (by rw [wdV_size]; exact info25) ?_)
        | (at_builtin; refine wpList_append_Sl _ rfl _ _ 27 rfl W.heap.size 25 i0 (.agg (wdV (0, 0, 0, 0))) 4 32 Try.underlying27 hi hz0 hz1 hz2 rfl (by decide) _ _ _ rfl (hS.alloc _) ⟨wr.heap.size, 0, none⟩ 1 1 (encW x) rfl ?e0 ?e1 ?e2 ?e3 ?e4 ?e5 ?_))
      case e0 => rfl
      case e1 => exact word_news (Holds_.new wr 25 (wdV x))
      case e2 => exact encW_one _
      case e3 => unfold maxLen; omega
      case e4 => omega
      case e5 => simp; omega
      intro v3 w3 hS3 hg3 _
      have hB3 : Below W.heap.size W w3 := (hB.alloc hsz _).grown (w' := w3) hg3 (by simp; omega) (fun k e => (hS.lt k e).1)
      go_wp2_with fail
      go_roundw
      case rel => exact ⟨j + 1, by omega, by go_num, by rw [List.replicate_succ', flat_append, flat_one]; exact hS3, hB3⟩
      case measure => simp [intOf]; omega
    · obtain rfl : j = k := by omega
      have hL : Ws wr u10 (List.replicate j x) := Ws.of_sl hS
      have hs := hs.later hB
      have B5 := B4.trans (hB.mono B4.size)
      have hpush := push_any _ _ _ _ (by omega) (by rw [List.length_replicate]; omega) wr hs hL
      clear hS hB hx
      go_wp2_with fail
      refine hpush.mono ?_
      rintro e w5 ⟨vt, rfl, ht, hb⟩
      have B6 := B5.trans (hb.mono B5.size)
      have hs := hs.later hb
      clear hb B5 hL hpush
      have hd1 : IntKind.i64.wrap (1 + (r : Int)) = (d : Int) := hw2
      go_wp2_with fail
      refine (hpr' _).mono ?_
      rintro e w6 ⟨rfl, rfl⟩
      have hdup := dup_any _ _ (by omega) (d : Int) (by omega) (by omega) _ hs
      have hwz : wrongE S.length d 1 = 0 := wrong_ok _ _ _ (by omega) (by omega) (by omega)
      have hdE : dupE S d = pushE S [dupX S d] := by unfold dupE; rw [if_pos hwz]
      have hdL : dupL S d = pushL S [dupX S d] := by unfold dupL; rw [if_pos hwz]
      have hxd : dupX S d = S.getD (M - d) (0, 0, 0, 0) := by unfold dupX; rw [hSl]; simp
      rw [hdE, hdL] at hdup
      have hq : S[M - d]? = some (dupX S d) := by rw [hxd]; simp [List.getD, show M - d < S.length by omega]
      clear hwz hdE hdL hxd
      generalize dupX S d = y at *
      go_wp2_with fail
      refine hdup.mono ?_
      rintro e W7 ⟨vu, rfl, hu, hb⟩
      have B7 := B6.trans (hb.mono B6.size)
      have hs := hs.later hb
      have ht := ht.later hb
      clear hb B6 hdup
      have hMk : IntKind.i64.wrap ((M : Int) + (j : Int)) = ((M + j : Nat) : Int) := (IntWalk.i64_in _ (by omega)).trans (by omega)
      have hRl : (List.replicate j x).length = j := List.length_replicate
      obtain ⟨R, hR⟩ : ∃ R, List.replicate j x = R := ⟨_, rfl⟩
      rw [hR] at ht hRl
      rw [hR]
      clear hR
      by_cases hf : M < 1024
      · have hfm : (M : Int) < 1024 := by omega
        obtain ⟨f1, f2⟩ := push_ok S [y] (by simp; omega)
        rw [f2] at hu
        rw [f1]
        clear f1 f2
        obtain ⟨Au, cu, rfl, u1, u2, u3⟩ := hu.form
        have hul : (S ++ [y]).length = M + 1 := by rw [List.length_append, hSl]; rfl
        rw [hul] at hu u1
        rw [hul]
        obtain ⟨gu, ou, rfl⟩ : ∃ g off, Au = some ⟨g, off, none⟩ := by
          rcases hu with ⟨_, e⟩ | ⟨g, off, _, e, _⟩
          · simp at e
          · exact ⟨g, off, (Value.slice.inj e).1⟩
        obtain ⟨gs, os, rfl⟩ : ∃ g off, As = some ⟨g, off, none⟩ := by
          rcases hs with ⟨_, e⟩ | ⟨g, off, _, e, _⟩
          · rw [e] at hSl; simp at hSl; omega
          · exact ⟨g, off, (Value.slice.inj e).1⟩
        obtain ⟨q, hqd⟩ : ∃ q, M - d = q := ⟨_, rfl⟩
        obtain ⟨M1, hM1'⟩ : ∃ m, M - 1 = m := ⟨_, rfl⟩
        rw [hqd] at hq
        have hyu : (S ++ [y])[M]? = some y := by rw [List.getElem?_append_right (by omega), hSl]; simp
        have i1 : IntKind.i64.wrap ((M : Int) + 1) = ((M + 1 : Nat) : Int) := (IntWalk.i64_in _ (by omega)).trans (by omega)
        have i2 : IntKind.i64.wrap ((M : Int) - 1) = (M1 : Int) := (IntWalk.i64_in _ (by omega)).trans (by omega)
        have i3 : IntKind.i64.wrap ((M1 : Int) - (r : Int)) = (q : Int) := (IntWalk.i64_in _ (by omega)).trans (by omega)
        have j1 : (M : Int) < ((M + 1 : Nat) : Int) := by omega
        have j2 : (q : Int) < (M : Int) := by omega
        have j3 : ((M : Int) + 1 ≤ (M : Int)) = False := eq_false (by omega)
        have heq := fun W => run_equalIn_word W y y
        rw [decide_eq_true (show y = y from rfl)] at heq
        by_cases he : M + j ≤ 1024
        · obtain ⟨e1, e2⟩ := push_ok S R (by omega)
          rw [e2] at ht
          rw [e1]
          clear e1 e2
          obtain ⟨A1, c1, ht1, ht2⟩ := run_take _ _ _ M (by rw [List.length_append]; omega) ht
          rw [show (S ++ R).take M = S from by rw [← hSl]; exact List.take_left] at ht2
          obtain ⟨At, ct, rfl, t1, t2, t3⟩ := ht.form
          have htl : (S ++ R).length = M + j := by rw [List.length_append]; omega
          rw [htl] at ht1 t1
          rw [htl]
          have hsame := same_any _ _ _ _ _ ht2 hs
          rw [decide_eq_true (show S = S from rfl)] at hsame
          have hle : ((M + j : Nat) : Int) ≤ 1024 := by omega
          go_wp2_with fail
          refine hsame.mono ?_
          rintro e W7 ⟨rfl, hb⟩
          have B7x := B7.trans (hb.mono B7.size)
          have hs := hs.later hb
          have hu := hu.later hb
          clear hb B7 hsame ht
          have B7 := B7x
          clear B7x
          have hy1 : ∀ V, (Keep W7 V ∧ Below w.heap.size w V) → ∀ j u, (wdV y)[j]? = some u → V.cell? ⟨gu, ou + M * 4 + j, none⟩ = some u := fun V hV => by
            have := (hu.later hV.1).at_ M y hyu
            rw [Nat.mul_comm] at this
            exact this
          have hy2 : ∀ V, (Keep W7 V ∧ Below w.heap.size w V) → ∀ j u, (wdV y)[j]? = some u → V.cell? ⟨gs, os + q * 4 + j, none⟩ = some u := fun V hV => by
            have := (hs.later hV.1).at_ q y hq
            rw [Nat.mul_comm] at this
            exact this
          go_wp2_with fail
          refine wp_region_quiet_class (fun V => Keep W7 V ∧ Below w.heap.size w V) (by kernel_rfl) (by kernel_rfl) ⟨(Below.refl _ _).drew, B7.drew⟩ ?_
          refine BigFrame.wpQuiet_want rfl (fun K hK => ?_)
          refine BigFrame.quiet_move _ rfl ?_
          go_simp; refine hK _ ?_; clear hK K
          refine BigFrame.wpQuiet_want rfl (fun K hK => ?_)
          refine BigFrame.quiet_move _ rfl ?_
          go_simp; refine hK _ ?_; clear hK K
          refine BigFrame.wpQuiet_want rfl (fun K hK => ?_)
          refine BigFrame.quiet_move _ rfl ?_
          go_simp; refine hK _ ?_; clear hK K
          refine BigFrame.wpQuiet_want rfl (fun K hK => ?_)
          refine quiet_run (.bool false) (fun W hW => by go_simp) ?_
          go_simp; refine hK _ ?_; clear hK K
          refine BigFrame.wpQuiet_want rfl (fun K hK => ?_)
          refine BigFrame.quiet_move _ rfl ?_
          go_simp; refine hK _ ?_; clear hK K
          refine BigFrame.wpQuiet_want rfl (fun K hK => ?_)
          refine BigFrame.quiet_move _ rfl ?_
          go_simp; refine hK _ ?_; clear hK K
          refine BigFrame.wpQuiet_want rfl (fun K hK => ?_)
          refine quiet_run (.int .i64 ((M + 1 : Nat) : Int)) (fun W hW => by go_simp) ?_
          go_simp; refine hK _ ?_; clear hK K
          refine BigFrame.wpQuiet_want rfl (fun K hK => ?_)
          refine BigFrame.quiet_move _ rfl ?_
          go_simp; refine hK _ ?_; clear hK K
          refine BigFrame.wpQuiet_want rfl (fun K hK => ?_)
          refine quiet_run (.int .i64 ((M + 1 : Nat) : Int)) (fun W hW => by go_simp) ?_
          go_simp; refine hK _ ?_; clear hK K
          refine BigFrame.wpQuiet_want rfl (fun K hK => ?_)
          refine quiet_run (.bool true) (fun W hW => by go_simp) ?_
          go_simp; refine hK _ ?_; clear hK K
          refine BigFrame.wpQuiet_want rfl (fun K hK => ?_)
          refine BigFrame.quiet_move _ rfl ?_
          go_simp; refine hK _ ?_; clear hK K
          refine BigFrame.wpQuiet_want rfl (fun K hK => ?_)
          refine BigFrame.quiet_move _ rfl ?_
          go_simp; refine hK _ ?_; clear hK K
          refine BigFrame.wpQuiet_want rfl (fun K hK => ?_)
          refine BigFrame.quiet_move _ rfl ?_
          go_simp; refine hK _ ?_; clear hK K
          refine BigFrame.wpQuiet_want rfl (fun K hK => ?_)
          refine quiet_run (.pointer (some ⟨gu, ou + M * 4, none⟩)) (fun W hW => by go_simp) ?_
          go_simp; refine hK _ ?_; clear hK K
          refine BigFrame.wpQuiet_want rfl (fun K hK => ?_)
          refine quiet_load_word _ rfl gu (ou + M * 4) rfl y (fun W hW => hy1 W hW) ?_
          go_simp; refine hK _ ?_; clear hK K
          refine BigFrame.wpQuiet_want rfl (fun K hK => ?_)
          refine BigFrame.quiet_move _ rfl ?_
          go_simp; refine hK _ ?_; clear hK K
          refine BigFrame.wpQuiet_want rfl (fun K hK => ?_)
          refine BigFrame.quiet_move _ rfl ?_
          go_simp; refine hK _ ?_; clear hK K
          refine BigFrame.wpQuiet_want rfl (fun K hK => ?_)
          refine quiet_run (.int .i64 ((M1 : Nat) : Int)) (fun W hW => by go_simp) ?_
          go_simp; refine hK _ ?_; clear hK K
          refine BigFrame.wpQuiet_want rfl (fun K hK => ?_)
          refine BigFrame.quiet_move _ rfl ?_
          go_simp; refine hK _ ?_; clear hK K
          refine BigFrame.wpQuiet_want rfl (fun K hK => ?_)
          refine quiet_call 12 #[.int .i64 n, .int .i64 16] _ (fun W hW => by go_simp) (fun W hW => (hpr' W).mono fun e W' h => ⟨h.1, by rw [← h.2]; exact hW⟩) ?_
          go_simp; refine hK _ ?_; clear hK K
          refine BigFrame.wpQuiet_want rfl (fun K hK => ?_)
          refine quiet_run (.int .i64 ((q : Nat) : Int)) (fun W hW => by go_simp) ?_
          go_simp; refine hK _ ?_; clear hK K
          refine BigFrame.wpQuiet_want rfl (fun K hK => ?_)
          refine quiet_run (.pointer (some ⟨gs, os + q * 4, none⟩)) (fun W hW => by go_simp) ?_
          go_simp; refine hK _ ?_; clear hK K
          refine BigFrame.wpQuiet_want rfl (fun K hK => ?_)
          refine quiet_load_word _ rfl gs (os + q * 4) rfl y (fun W hW => hy2 W hW) ?_
          go_simp; refine hK _ ?_; clear hK K
          refine BigFrame.wpQuiet_want rfl (fun K hK => ?_)
          refine quiet_run (.bool true) (fun W hW => by go_simp) ?_
          go_simp; refine hK _ ?_; clear hK K
          refine BigFrame.wpQuiet_want rfl (fun K hK => ?_)
          refine quiet_run (.bool true) (fun W hW => by go_simp) ?_
          go_simp; refine hK _ ?_; clear hK K
          refine BigFrame.wpQuiet_want rfl (fun K hK => ?_)
          refine quiet_run (.bool true) (fun W hW => by go_simp) ?_
          go_simp; refine hK _ ?_; clear hK K
          refine BigFrame.wpQuiet_want rfl (fun K hK => ?_)
          refine quiet_run (.bool true) (fun W hW => by go_simp) ?_
          go_simp; refine hK _ ?_; clear hK K
          refine BigFrame.wpQuiet_want rfl (fun K hK => ?_)
          refine quiet_run (.bool true) (fun W hW => by go_simp) ?_
          go_simp; refine hK _ ?_; clear hK K
          refine wpQuiet_nil ?_
          rintro Wz ⟨hkz, hbz⟩
          go_wp2_with fail
          go_ret
          exact ⟨rfl, hbz⟩
        · obtain ⟨e1, e2⟩ := push_over S R (by omega) (by omega)
          rw [e2] at ht
          rw [e1]
          clear e1 e2
          have hsame := same_any _ _ _ _ _ ht hs
          rw [decide_eq_true (show S = S from rfl)] at hsame
          have hle : ¬ ((M + j : Nat) : Int) ≤ 1024 := by omega
          go_wp2_with fail
          refine hsame.mono ?_
          rintro e W7 ⟨rfl, hb⟩
          have B7x := B7.trans (hb.mono B7.size)
          have hs := hs.later hb
          have hu := hu.later hb
          clear hb B7 hsame ht
          have B7 := B7x
          clear B7x
          have hy1 : ∀ V, (Keep W7 V ∧ Below w.heap.size w V) → ∀ j u, (wdV y)[j]? = some u → V.cell? ⟨gu, ou + M * 4 + j, none⟩ = some u := fun V hV => by
            have := (hu.later hV.1).at_ M y hyu
            rw [Nat.mul_comm] at this
            exact this
          have hy2 : ∀ V, (Keep W7 V ∧ Below w.heap.size w V) → ∀ j u, (wdV y)[j]? = some u → V.cell? ⟨gs, os + q * 4 + j, none⟩ = some u := fun V hV => by
            have := (hs.later hV.1).at_ q y hq
            rw [Nat.mul_comm] at this
            exact this
          go_wp2_with fail
          refine wp_region_quiet_class (fun V => Keep W7 V ∧ Below w.heap.size w V) (by kernel_rfl) (by kernel_rfl) ⟨(Below.refl _ _).drew, B7.drew⟩ ?_
          refine BigFrame.wpQuiet_want rfl (fun K hK => ?_)
          refine BigFrame.quiet_move _ rfl ?_
          go_simp; refine hK _ ?_; clear hK K
          refine BigFrame.wpQuiet_want rfl (fun K hK => ?_)
          refine BigFrame.quiet_move _ rfl ?_
          go_simp; refine hK _ ?_; clear hK K
          refine BigFrame.wpQuiet_want rfl (fun K hK => ?_)
          refine BigFrame.quiet_move _ rfl ?_
          go_simp; refine hK _ ?_; clear hK K
          refine BigFrame.wpQuiet_want rfl (fun K hK => ?_)
          refine quiet_run (.bool false) (fun W hW => by go_simp) ?_
          go_simp; refine hK _ ?_; clear hK K
          refine BigFrame.wpQuiet_want rfl (fun K hK => ?_)
          refine BigFrame.quiet_move _ rfl ?_
          go_simp; refine hK _ ?_; clear hK K
          refine BigFrame.wpQuiet_want rfl (fun K hK => ?_)
          refine BigFrame.quiet_move _ rfl ?_
          go_simp; refine hK _ ?_; clear hK K
          refine BigFrame.wpQuiet_want rfl (fun K hK => ?_)
          refine quiet_run (.int .i64 ((M + 1 : Nat) : Int)) (fun W hW => by go_simp) ?_
          go_simp; refine hK _ ?_; clear hK K
          refine BigFrame.wpQuiet_want rfl (fun K hK => ?_)
          refine BigFrame.quiet_move _ rfl ?_
          go_simp; refine hK _ ?_; clear hK K
          refine BigFrame.wpQuiet_want rfl (fun K hK => ?_)
          refine quiet_run (.int .i64 ((M + 1 : Nat) : Int)) (fun W hW => by go_simp) ?_
          go_simp; refine hK _ ?_; clear hK K
          refine BigFrame.wpQuiet_want rfl (fun K hK => ?_)
          refine quiet_run (.bool true) (fun W hW => by go_simp) ?_
          go_simp; refine hK _ ?_; clear hK K
          refine BigFrame.wpQuiet_want rfl (fun K hK => ?_)
          refine BigFrame.quiet_move _ rfl ?_
          go_simp; refine hK _ ?_; clear hK K
          refine BigFrame.wpQuiet_want rfl (fun K hK => ?_)
          refine BigFrame.quiet_move _ rfl ?_
          go_simp; refine hK _ ?_; clear hK K
          refine BigFrame.wpQuiet_want rfl (fun K hK => ?_)
          refine BigFrame.quiet_move _ rfl ?_
          go_simp; refine hK _ ?_; clear hK K
          refine BigFrame.wpQuiet_want rfl (fun K hK => ?_)
          refine quiet_run (.pointer (some ⟨gu, ou + M * 4, none⟩)) (fun W hW => by go_simp) ?_
          go_simp; refine hK _ ?_; clear hK K
          refine BigFrame.wpQuiet_want rfl (fun K hK => ?_)
          refine quiet_load_word _ rfl gu (ou + M * 4) rfl y (fun W hW => hy1 W hW) ?_
          go_simp; refine hK _ ?_; clear hK K
          refine BigFrame.wpQuiet_want rfl (fun K hK => ?_)
          refine BigFrame.quiet_move _ rfl ?_
          go_simp; refine hK _ ?_; clear hK K
          refine BigFrame.wpQuiet_want rfl (fun K hK => ?_)
          refine BigFrame.quiet_move _ rfl ?_
          go_simp; refine hK _ ?_; clear hK K
          refine BigFrame.wpQuiet_want rfl (fun K hK => ?_)
          refine quiet_run (.int .i64 ((M1 : Nat) : Int)) (fun W hW => by go_simp) ?_
          go_simp; refine hK _ ?_; clear hK K
          refine BigFrame.wpQuiet_want rfl (fun K hK => ?_)
          refine BigFrame.quiet_move _ rfl ?_
          go_simp; refine hK _ ?_; clear hK K
          refine BigFrame.wpQuiet_want rfl (fun K hK => ?_)
          refine quiet_call 12 #[.int .i64 n, .int .i64 16] _ (fun W hW => by go_simp) (fun W hW => (hpr' W).mono fun e W' h => ⟨h.1, by rw [← h.2]; exact hW⟩) ?_
          go_simp; refine hK _ ?_; clear hK K
          refine BigFrame.wpQuiet_want rfl (fun K hK => ?_)
          refine quiet_run (.int .i64 ((q : Nat) : Int)) (fun W hW => by go_simp) ?_
          go_simp; refine hK _ ?_; clear hK K
          refine BigFrame.wpQuiet_want rfl (fun K hK => ?_)
          refine quiet_run (.pointer (some ⟨gs, os + q * 4, none⟩)) (fun W hW => by go_simp) ?_
          go_simp; refine hK _ ?_; clear hK K
          refine BigFrame.wpQuiet_want rfl (fun K hK => ?_)
          refine quiet_load_word _ rfl gs (os + q * 4) rfl y (fun W hW => hy2 W hW) ?_
          go_simp; refine hK _ ?_; clear hK K
          refine BigFrame.wpQuiet_want rfl (fun K hK => ?_)
          refine quiet_run (.bool true) (fun W hW => by go_simp) ?_
          go_simp; refine hK _ ?_; clear hK K
          refine BigFrame.wpQuiet_want rfl (fun K hK => ?_)
          refine quiet_run (.bool true) (fun W hW => by go_simp) ?_
          go_simp; refine hK _ ?_; clear hK K
          refine BigFrame.wpQuiet_want rfl (fun K hK => ?_)
          refine quiet_run (.bool true) (fun W hW => by go_simp) ?_
          go_simp; refine hK _ ?_; clear hK K
          refine BigFrame.wpQuiet_want rfl (fun K hK => ?_)
          refine quiet_run (.bool true) (fun W hW => by go_simp) ?_
          go_simp; refine hK _ ?_; clear hK K
          refine BigFrame.wpQuiet_want rfl (fun K hK => ?_)
          refine quiet_run (.bool true) (fun W hW => by go_simp) ?_
          go_simp; refine hK _ ?_; clear hK K
          refine wpQuiet_nil ?_
          rintro Wz ⟨hkz, hbz⟩
          go_wp2_with fail
          go_ret
          exact ⟨rfl, hbz⟩
      · have hfm : ¬ (M : Int) < 1024 := by omega
        obtain ⟨f1, f2⟩ := push_over S [y] (by omega) (by rw [hSl]; simp; omega)
        rw [f2] at hu
        rw [f1]
        clear f1 f2
        by_cases he : M + j ≤ 1024
        · obtain ⟨e1, e2⟩ := push_ok S R (by omega)
          rw [e2] at ht
          rw [e1]
          clear e1 e2
          obtain ⟨A1, c1, ht1, ht2⟩ := run_take _ _ _ M (by rw [List.length_append]; omega) ht
          rw [show (S ++ R).take M = S from by rw [← hSl]; exact List.take_left] at ht2
          obtain ⟨At, ct, rfl, t1, t2, t3⟩ := ht.form
          have htl : (S ++ R).length = M + j := by rw [List.length_append]; omega
          rw [htl] at ht1 t1
          rw [htl]
          have hsame := same_any _ _ _ _ _ ht2 hs
          rw [decide_eq_true (show S = S from rfl)] at hsame
          have hle : ((M + j : Nat) : Int) ≤ 1024 := by omega
          go_wp2_with fail
          refine hsame.mono ?_
          rintro e W7 ⟨rfl, hb⟩
          have B7x := B7.trans (hb.mono B7.size)
          have hs := hs.later hb
          have hu := hu.later hb
          clear hb B7 hsame ht
          have B7 := B7x
          clear B7x
          go_wp2_with fail
          go_quiet (fail)
          go_wp2_with fail
          go_ret
          exact ⟨rfl, below_draws B7 nq⟩
        · obtain ⟨e1, e2⟩ := push_over S R (by omega) (by omega)
          rw [e2] at ht
          rw [e1]
          clear e1 e2
          have hsame := same_any _ _ _ _ _ ht hs
          rw [decide_eq_true (show S = S from rfl)] at hsame
          have hle : ¬ ((M + j : Nat) : Int) ≤ 1024 := by omega
          go_wp2_with fail
          refine hsame.mono ?_
          rintro e W7 ⟨rfl, hb⟩
          have B7x := B7.trans (hb.mono B7.size)
          have hs := hs.later hb
          have hu := hu.later hb
          clear hb B7 hsame ht
          have B7 := B7x
          clear B7x
          go_wp2_with fail
          go_quiet (fail)
          go_wp2_with fail
          go_ret
          exact ⟨rfl, below_draws B7 nq⟩
end Go.Proofs.Ythfopoeahphnjaa
