/- StackBack, by its walk. -/
import Derived.Test.YthfopoeahphnjaaSi
import Derived.Test.YthfopoeahphnjaaXd
namespace Go.Proofs.Ythfopoeahphnjaa
open Go.RowKit Go.Shelf
set_option linter.unusedVariables false
set_option linter.unusedSimpArgs false
attribute [local go_sem] wdV_size fold_word

/-! the plain law -/
theorem base_le (l : List Int) : (stackL l false 0).length ≤ 20 := by
  show (baseL l).length ≤ 20
  rw [baseL_length]; omega
theorem wrong_over (M n least : Int) (h1 : M ≤ 1024) (h2 : least ≤ n) (h3 : M < n) : wrongE M n least = 40 := by
  unfold wrongE
  rw [if_neg (by omega), if_pos (by omega)]
theorem pop_back (S L : List Wd) (h : S.length + L.length ≤ 1024) : popE (S ++ L) (L.length : Int) = 0 ∧ popA (S ++ L) (L.length : Int) = S ∧ popB (S ++ L) (L.length : Int) = L.reverse := by
  have e : popE (S ++ L) (L.length : Int) = 0 := wrong_ok _ _ _ (by rw [List.length_append]; omega) (by omega) (by rw [List.length_append]; omega)
  have hl : (S ++ L).length - ((L.length : Int)).toNat = S.length := by rw [List.length_append]; omega
  refine ⟨e, ?_, ?_⟩
  · unfold popA; rw [if_pos e, hl, List.take_left]
  · unfold popB; rw [if_pos e, hl, List.drop_left]
theorem swapTo_back (S : List Wd) (k : Nat) (hk : k < S.length) : swapTo (swapTo S k) k = S := by
  unfold swapTo
  apply List.ext_getElem?
  intro i
  simp only [List.length_set, List.getD_eq_getElem?_getD, List.getElem?_set]
  by_cases h1 : S.length - 1 - k = i
  · by_cases h2 : S.length - 1 = i
    · subst h2
      have : S.length - 1 < S.length := by omega
      simp [h1, this]
    · subst h1
      have a1 : S.length - 1 < S.length := by omega
      have a2 : S.length - 1 - k < S.length := by omega
      have a3 : ¬ S.length - 1 - k = S.length - 1 := fun e => h2 e.symm
      simp [a1, a2, a3]
  · by_cases h2 : S.length - 1 = i
    · subst h2
      have a1 : S.length - 1 < S.length := by omega
      have a2 : S.length - 1 - k < S.length := by omega
      simp [a1, a2, h1]
    · simp [h1, h2]
theorem swapTo_length (S : List Wd) (k : Nat) : (swapTo S k).length = S.length := by simp [swapTo]
theorem swap_in (S : List Wd) (k : Nat) (h : S.length ≤ 1024) (h1 : 1 ≤ k) (hk : k < S.length) : swapE S (k : Int) = 0 ∧ swapL S (k : Int) = swapTo S k := by
  have e : wrongE S.length (k : Int) 1 = 0 := wrong_ok _ _ _ (by omega) (by omega) (by omega)
  have e2 : swapE S (k : Int) = 0 := by unfold swapE; rw [if_neg (fun h => by have := h.2; omega), e]
  exact ⟨e2, by unfold swapL; rw [if_pos e2]; rfl⟩
theorem swap_out (S : List Wd) (k : Nat) (h : S.length ≤ 1024) (h1 : 1 ≤ k) (hk : S.length ≤ k) : swapE S (k : Int) = 40 ∧ swapL S (k : Int) = S := by
  have e2 : swapE S (k : Int) = 40 := by
    unfold swapE
    by_cases hh : S.length = k
    · rw [if_pos ⟨wrong_ok _ _ _ (by omega) (by omega) (by omega), by omega⟩]
    · rw [wrong_over _ _ _ (by omega) (by omega) (by omega)]
      rfl
  exact ⟨e2, by unfold swapL; rw [if_neg (by rw [e2]; decide)]⟩
theorem dup_in (S : List Wd) (k : Nat) (h : S.length < 1024) (h1 : 1 ≤ k) (hk : k ≤ S.length) : dupE S (k : Int) = 0 ∧ dupL S (k : Int) = S ++ [dupX S (k : Int)] := by
  have e : wrongE S.length (k : Int) 1 = 0 := wrong_ok _ _ _ (by omega) (by omega) (by omega)
  obtain ⟨f1, f2⟩ := push_ok S [dupX S (k : Int)] (by simp; omega)
  exact ⟨by unfold dupE; rw [if_pos e, f1], by unfold dupL; rw [if_pos e, f2]⟩
theorem dup_out (S : List Wd) (k : Nat) (h : S.length ≤ 1024) (h1 : 1 ≤ k) (hk : S.length < k) : dupE S (k : Int) = 40 ∧ dupL S (k : Int) = S := by
  have e : wrongE S.length (k : Int) 1 = 40 := wrong_over _ _ _ (by omega) (by omega) (by omega)
  exact ⟨by unfold dupE; rw [if_neg (by rw [e]; decide), e], by unfold dupL; rw [if_neg (by rw [e]; decide)]⟩
theorem pop_in (S : List Wd) (k : Nat) (h : S.length ≤ 1024) (h1 : 1 ≤ k) (hk : k ≤ S.length) : popE S (k : Int) = 0 ∧ popB S (k : Int) = (S.drop (S.length - k)).reverse := by
  have e : popE S (k : Int) = 0 := wrong_ok _ _ _ (by omega) (by omega) (by omega)
  exact ⟨e, by unfold popB; rw [if_pos e]; rfl⟩
theorem pop_out (S : List Wd) (k : Nat) (h : S.length ≤ 1024) (h1 : 1 ≤ k) (hk : S.length < k) : popE S (k : Int) = 40 := wrong_over _ _ _ (by omega) (by omega) (by omega)
theorem dupX_at (S : List Wd) (k : Nat) (h1 : 1 ≤ k) (hk : k ≤ S.length) : S[S.length - k]? = some (dupX S (k : Int)) := by
  unfold dupX
  simp [List.getD, show S.length - k < S.length by omega]
theorem pop_last (S : List Wd) (k : Nat) (h1 : 1 ≤ k) (hk : k ≤ S.length) : ((S.drop (S.length - k)).reverse)[k - 1]? = some (dupX S (k : Int)) := by
  have hl : (S.drop (S.length - k)).length = k := by rw [List.length_drop]; omega
  rw [List.getElem?_reverse (by omega), hl, List.getElem?_drop, ← dupX_at S k h1 hk]
  congr 1
  omega

set_option maxRecDepth 100000 in
set_option maxHeartbeats 8000000 in
theorem back_true (v1 v2 : Value) (l1 l2 : List Int) (n : Int) (hn : -9223372036854775808 ≤ n) (hn2 : n ≤ 9223372036854775807) (w : World) (g1 : Is w v1 l1) (g2 : Is w v2 l2) :
    Calls Try.prog 4 #[v1, v2, .int .i64 n] w fun e W' => e = .returned (.bool true) ∧ Below w.heap.size w W' := by
  obtain ⟨i0, hi, hz0, hz1, hz2⟩ := info_parts infoz25
  obtain ⟨r, hr, hpr⟩ := pick_nat n 22 (by decide) (by decide) hn hn2
  have hpr' : ∀ w, Calls Try.prog 12 #[.int .i64 n, .int .i64 22] w fun e W' => e = .returned (.int .i64 r) ∧ w = W' := hpr
  obtain ⟨k, hk⟩ : ∃ k, 1 + r = k := ⟨_, rfl⟩
  have hwk : IntKind.i64.wrap (1 + (r : Int)) = (k : Int) := (IntWalk.i64_in _ (by omega)).trans (by omega)
  clear hpr
  have hs1 := fun w => stack_any v1 l1 false 0 (by decide) (by decide) w
  have hs2 := fun w => stack_any v2 l2 false 0 (by decide) (by decide) w
  have hSl := base_le l1
  have hLl := base_le l2
  generalize stackL l1 false 0 = S at *
  generalize stackL l2 false 0 = L at *
  have hB0 := Below.refl w.heap.size w
  go_enter Try.func4, Try.ntmps4
  go_wp2_with fail
  refine (awake_any _).mono ?_
  rintro e w1 ⟨rfl, B1⟩
  have g1 := g1.below B1 (Nat.le_refl _)
  have g2 := g2.below B1 (Nat.le_refl _)
  go_wp2_with fail
  refine (hs1 _ g1).mono ?_
  rintro e w2 ⟨vs, rfl, hs, hb⟩
  have B2 := B1.trans (hb.mono B1.size)
  have g2 := g2.below hb (Nat.le_refl _)
  clear hb B1 g1 hs1
  go_wp2_with fail
  refine (hs2 _ g2).mono ?_
  rintro e w3 ⟨vl, rfl, hl, hb⟩
  have B3 := B2.trans (hb.mono B2.size)
  have hs := hs.later hb
  clear hb B2 g2 hs2
  go_wp2_with fail
  refine (push_any _ _ _ _ (by omega) (by omega) _ hs hl).mono ?_
  rintro e w4 ⟨va, rfl, ha, hb⟩
  have B4 := B3.trans (hb.mono B3.size)
  have hs := hs.later hb
  have hl := hl.later hb
  clear hb B3
  obtain ⟨e1, e2⟩ := push_ok S L (by omega)
  rw [e2] at ha
  rw [e1]
  clear e1 e2
  obtain ⟨Al, cl, rfl, l1', l2', l3'⟩ := hl.form
  obtain ⟨N, hN⟩ : ∃ N, L.length = N := ⟨_, rfl⟩
  obtain ⟨As, cs, rfl, s1', s2', s3'⟩ := hs.form
  obtain ⟨M, hM⟩ : ∃ M, S.length = M := ⟨_, rfl⟩
  have hpop := pop_any va (S ++ L) (by rw [List.length_append]; omega) (L.length : Int) (by omega) (by omega) w4 ha
  obtain ⟨e1, e2, e3⟩ := pop_back S L (by omega)
  rw [e1, e2, e3] at hpop
  clear e1 e2 e3
  rw [hN] at hpop hl l1' hLl
  rw [hM] at hs s1' hSl
  rw [hN, hM]
  go_wp2_with fail
  refine hpop.mono ?_
  rintro e w5 ⟨vb, vx, rfl, hbb, hx, hb⟩
  have B5 := B4.trans (hb.mono B4.size)
  have hs := hs.later hb
  have hl := hl.later hb
  clear hb B4 ha hpop
  obtain ⟨Ax, cx, rfl, x1', x2', x3'⟩ := hx.form
  have hxl : L.reverse.length = N := by rw [List.length_reverse, hN]
  rw [hxl] at hx x1'
  rw [hxl]
  have hsame := same_any _ _ _ _ _ hbb hs
  rw [decide_eq_true (show S = S from rfl)] at hsame
  go_wp2_with fail
  refine hsame.mono ?_
  rintro e w6 ⟨rfl, hb⟩
  have B6 := B5.trans (hb.mono B5.size)
  have hs := hs.later hb
  have hl := hl.later hb
  have hx := hx.later hb
  clear hb B5 hbb hsame
  go_wp2_with fail
  go_loopw [15] (fun i wr => ∃ j : Nat, j ≤ N ∧ i = .int .i64 j ∧ Below w6.heap.size w6 wr)
    (fun i _ => N - (intOf i).toNat)
  case atStart => exact ⟨0, by omega, rfl, Below.refl _ _⟩
  case round =>
    obtain ⟨j, hj, rfl, hB⟩ := hrel
    have hs := hs.later hB
    have hl := hl.later hB
    have hx := hx.later hB
    have B7 := B6.trans (hB.mono B6.size)
    by_cases hlt : j < N
    · have hjk : (j : Int) < (N : Int) := by omega
      obtain ⟨q, hq⟩ : ∃ q, N - 1 - j = q := ⟨_, rfl⟩
      obtain ⟨N1, hN1⟩ : ∃ q, N - 1 = q := ⟨_, rfl⟩
      have i1 : IntKind.i64.wrap ((N : Int) - 1) = (N1 : Int) := (IntWalk.i64_in _ (by omega)).trans (by omega)
      have i2 : IntKind.i64.wrap ((N1 : Int) - (j : Int)) = (q : Int) := (IntWalk.i64_in _ (by omega)).trans (by omega)
      have hqN : (q : Int) < (N : Int) := by omega
      obtain ⟨y, hy⟩ : ∃ y, L[q]? = some y := ⟨_, List.getElem?_eq_getElem (by omega)⟩
      have hy2 : L.reverse[j]? = some y := by
        rw [List.getElem?_reverse (by omega), ← hy, hN]
        congr 1
      obtain ⟨gl, ol, rfl⟩ : ∃ g off, Al = some ⟨g, off, none⟩ := by
        rcases hl with ⟨_, e⟩ | ⟨g, off, _, e, _⟩
        · rw [e] at hN; simp at hN; omega
        · exact ⟨g, off, (Value.slice.inj e).1⟩
      obtain ⟨gx, ox, rfl⟩ : ∃ g off, Ax = some ⟨g, off, none⟩ := by
        rcases hx with ⟨_, e⟩ | ⟨g, off, _, e, _⟩
        · rw [e] at hxl; simp at hxl; omega
        · exact ⟨g, off, (Value.slice.inj e).1⟩
      have heq := fun W => run_equalIn_word W y y
      rw [decide_eq_true (show y = y from rfl)] at heq
      have c1 : ∀ V, (Keep wr V ∧ Below w.heap.size w V) → ∀ i u, (wdV y)[i]? = some u → V.cell? ⟨gx, ox + j * 4 + i, none⟩ = some u := fun V hV => by
        have := (hx.later hV.1).at_ j y hy2
        rw [Nat.mul_comm] at this
        exact this
      have c2 : ∀ V, (Keep wr V ∧ Below w.heap.size w V) → ∀ i u, (wdV y)[i]? = some u → V.cell? ⟨gl, ol + q * 4 + i, none⟩ = some u := fun V hV => by
        have := (hl.later hV.1).at_ q y hy
        rw [Nat.mul_comm] at this
        exact this
      go_wp2_with fail
      refine wp_region_quiet_class (fun V => Keep wr V ∧ Below w.heap.size w V) (by kernel_rfl) (by kernel_rfl) ⟨(Below.refl _ _).drew, B7.drew⟩ ?_
      refine BigFrame.wpQuiet_want rfl (fun K hK => ?_)
      refine BigFrame.quiet_move _ rfl ?_
      go_simp; refine hK _ ?_; clear hK K
      refine BigFrame.wpQuiet_want rfl (fun K hK => ?_)
      refine BigFrame.quiet_move _ rfl ?_
      go_simp; refine hK _ ?_; clear hK K
      refine BigFrame.wpQuiet_want rfl (fun K hK => ?_)
      refine quiet_run (.pointer (some ⟨gx, ox + j * 4, none⟩)) (fun W hW => by go_simp) ?_
      go_simp; refine hK _ ?_; clear hK K
      refine BigFrame.wpQuiet_want rfl (fun K hK => ?_)
      refine quiet_load_word _ rfl gx (ox + j * 4) rfl y (fun W hW => c1 W hW) ?_
      go_simp; refine hK _ ?_; clear hK K
      refine BigFrame.wpQuiet_want rfl (fun K hK => ?_)
      refine BigFrame.quiet_move _ rfl ?_
      go_simp; refine hK _ ?_; clear hK K
      refine BigFrame.wpQuiet_want rfl (fun K hK => ?_)
      refine BigFrame.quiet_move _ rfl ?_
      go_simp; refine hK _ ?_; clear hK K
      refine BigFrame.wpQuiet_want rfl (fun K hK => ?_)
      refine quiet_run (.int .i64 (N : Int)) (fun W hW => by go_simp) ?_
      go_simp; refine hK _ ?_; clear hK K
      refine BigFrame.wpQuiet_want rfl (fun K hK => ?_)
      refine quiet_run (.int .i64 (N1 : Int)) (fun W hW => by go_simp) ?_
      go_simp; refine hK _ ?_; clear hK K
      refine BigFrame.wpQuiet_want rfl (fun K hK => ?_)
      refine BigFrame.quiet_move _ rfl ?_
      go_simp; refine hK _ ?_; clear hK K
      refine BigFrame.wpQuiet_want rfl (fun K hK => ?_)
      refine quiet_run (.int .i64 (q : Int)) (fun W hW => by go_simp) ?_
      go_simp; refine hK _ ?_; clear hK K
      refine BigFrame.wpQuiet_want rfl (fun K hK => ?_)
      refine quiet_run (.pointer (some ⟨gl, ol + q * 4, none⟩)) (fun W hW => by go_simp) ?_
      go_simp; refine hK _ ?_; clear hK K
      refine BigFrame.wpQuiet_want rfl (fun K hK => ?_)
      refine quiet_load_word _ rfl gl (ol + q * 4) rfl y (fun W hW => c2 W hW) ?_
      go_simp; refine hK _ ?_; clear hK K
      refine BigFrame.wpQuiet_want rfl (fun K hK => ?_)
      refine quiet_run (.bool false) (fun W hW => by go_simp) ?_
      go_simp; refine hK _ ?_; clear hK K
      refine wpQuiet_nil ?_
      rintro Wz ⟨hkz, hbz⟩
      have hBz := hB.trans (hkz.mono hB.size)
      go_wp2_with fail
      go_roundw
      case rel => exact ⟨j + 1, by omega, by go_num, hBz⟩
      case measure => simp [intOf]; omega
    · obtain rfl : j = N := by omega
      clear hB B6 hx l1' l2' l3' x1' x2' x3' hxl
      by_cases hkA : k < M
      · obtain ⟨e1, e2⟩ := swap_in S k (by omega) (by omega) (by omega)
        have hsw := swap_any _ S (by omega) (k : Int) (by omega) (by omega) _ hs
        rw [e1, e2] at hsw
        clear e1 e2
        obtain ⟨e1, e2⟩ := swap_in (swapTo S k) k (by rw [swapTo_length]; omega) (by omega) (by rw [swapTo_length]; omega)
        have hsw2 := fun v W => swap_any v (swapTo S k) (by rw [swapTo_length]; omega) (k : Int) (by omega) (by omega) W
        rw [e1, e2, swapTo_back S k (by omega)] at hsw2
        clear e1 e2
        have hdp := fun W => dup_any (.slice As M cs) S (by omega) (k : Int) (by omega) (by omega) W
        have hpp := fun W => pop_any (.slice As M cs) S (by omega) (k : Int) (by omega) (by omega) W
        obtain ⟨e1, e2⟩ := dup_in S k (by omega) (by omega) (by omega)
        rw [e1, e2] at hdp
        clear e1 e2
        obtain ⟨e1, e2⟩ := pop_in S k (by omega) (by omega) (by omega)
        rw [e1, e2] at hpp
        clear e1 e2
        have hq1 : (S ++ [dupX S (k : Int)])[M]? = some (dupX S (k : Int)) := by rw [List.getElem?_append_right (by omega), hM]; simp
        have hq2 := pop_last S k (by omega) (by omega)
        have hyl : (S.drop (S.length - k)).reverse.length = k := by rw [List.length_reverse, List.length_drop]; omega
        have hpl : (S ++ [dupX S (k : Int)]).length = M + 1 := by rw [List.length_append, hM]; rfl
        have htk : (S ++ [dupX S (k : Int)]).take M = S := by rw [← hM]; exact List.take_left
        generalize dupX S (k : Int) = y at *
        generalize (S.drop (S.length - k)).reverse = Y at *
        generalize S ++ [y] = Q at *
        have hkm : (k : Int) < (M : Int) := by omega
        have hkm2 : (k : Int) ≤ (M : Int) := by omega
        go_wp2_with fail
        refine (hpr' _).mono ?_
        rintro e w7 ⟨rfl, rfl⟩
        go_wp2_with fail
        refine hsw.mono ?_
        rintro e w8 ⟨vc, rfl, hc, hb⟩
        have B8 := B7.trans (hb.mono B7.size)
        have hs := hs.later hb
        clear hb B7 hsw
        go_wp2_with fail
        refine (hsw2 _ _ hc).mono ?_
        rintro e w9 ⟨vd, rfl, hd, hb⟩
        have B9 := B8.trans (hb.mono B8.size)
        have hs := hs.later hb
        clear hb B8 hsw2 hc
        go_wp2_with fail
        refine (hdp _ hs).mono ?_
        rintro e w10 ⟨vp, rfl, hp, hb⟩
        have B10 := B9.trans (hb.mono B9.size)
        have hs := hs.later hb
        have hd := hd.later hb
        clear hb B9 hdp
        go_wp2_with fail
        refine (hpp _ hs).mono ?_
        rintro e w11 ⟨vz, vy, rfl, -, hy, hb⟩
        have B11 := B10.trans (hb.mono B10.size)
        have hs := hs.later hb
        have hd := hd.later hb
        have hp := hp.later hb
        clear hb B10 hpp
        have hsame := same_any _ _ _ _ _ hd hs
        rw [decide_eq_true (show S = S from rfl)] at hsame
        go_wp2_with fail
        refine hsame.mono ?_
        rintro e w12 ⟨rfl, hb⟩
        have B12 := B11.trans (hb.mono B11.size)
        have hs := hs.later hb
        have hp := hp.later hb
        have hy := hy.later hb
        clear hb B11 hd hsame
        obtain ⟨Ap, cp, rfl, p1, p2, p3⟩ := hp.form
        obtain ⟨Ay, cy, rfl, y1, y2, y3⟩ := hy.form
        rw [hpl] at hp p1
        rw [hyl] at hy y1
        rw [hpl, hyl]
        obtain ⟨A1, ct, ht1, ht2⟩ := run_take _ _ Q M (by omega) hp
        rw [htk] at ht2
        obtain ⟨gp, op, rfl⟩ : ∃ g off, Ap = some ⟨g, off, none⟩ := by
          rcases hp with ⟨_, e⟩ | ⟨g, off, _, e, _⟩
          · rw [e] at hpl; simp at hpl
          · exact ⟨g, off, (Value.slice.inj e).1⟩
        obtain ⟨gy, oy, rfl⟩ : ∃ g off, Ay = some ⟨g, off, none⟩ := by
          rcases hy with ⟨_, e⟩ | ⟨g, off, _, e, _⟩
          · rw [e] at hyl; simp at hyl; omega
          · exact ⟨g, off, (Value.slice.inj e).1⟩
        obtain ⟨k1, hk1⟩ : ∃ q, k - 1 = q := ⟨_, rfl⟩
        rw [hk1] at hq2
        have i1 : IntKind.i64.wrap ((M : Int) + 1) = ((M + 1 : Nat) : Int) := (IntWalk.i64_in _ (by omega)).trans (by omega)
        have i2 : IntKind.i64.wrap ((k : Int) - 1) = (k1 : Int) := (IntWalk.i64_in _ (by omega)).trans (by omega)
        have j1 : (M : Int) < ((M + 1 : Nat) : Int) := by omega
        have j2 : (k1 : Int) < (k : Int) := by omega
        have j3 : ((M : Int) + 1 ≤ (M : Int)) = False := eq_false (by omega)
        have heq := fun W => run_equalIn_word W y y
        rw [decide_eq_true (show y = y from rfl)] at heq
        have c1 : ∀ V, (Keep w12 V ∧ Below w.heap.size w V) → ∀ i u, (wdV y)[i]? = some u → V.cell? ⟨gp, op + M * 4 + i, none⟩ = some u := fun V hV => by
          have := (hp.later hV.1).at_ M y hq1
          rw [Nat.mul_comm] at this
          exact this
        have c2 : ∀ V, (Keep w12 V ∧ Below w.heap.size w V) → ∀ i u, (wdV y)[i]? = some u → V.cell? ⟨gy, oy + k1 * 4 + i, none⟩ = some u := fun V hV => by
          have := (hy.later hV.1).at_ k1 y hq2
          rw [Nat.mul_comm] at this
          exact this
        have hsm : ∀ V, (Keep w12 V ∧ Below w.heap.size w V) → Calls Try.prog 11 #[.slice A1 M ct, .slice As M cs] V fun e W' => e = .returned (.bool true) ∧ (Keep w12 W' ∧ Below w.heap.size w W') := fun V hV => by
          have h := same_any _ _ _ _ V (ht2.later hV.1) (hs.later hV.1)
          rw [decide_eq_true (show S = S from rfl)] at h
          exact h.mono fun e W' h => ⟨h.1, hV.1.trans (h.2.mono hV.1.size), hV.2.trans (h.2.mono hV.2.size)⟩
        go_wp2_with fail
        refine wp_region_quiet_class (fun V => Keep w12 V ∧ Below w.heap.size w V) (by kernel_rfl) (by kernel_rfl) ⟨(Below.refl _ _).drew, B12.drew⟩ ?_
        refine BigFrame.wpQuiet_want rfl (fun K hK => ?_)
        refine BigFrame.quiet_move _ rfl ?_
        go_simp; refine hK _ ?_; clear hK K
        refine BigFrame.wpQuiet_want rfl (fun K hK => ?_)
        refine BigFrame.quiet_move _ rfl ?_
        go_simp; refine hK _ ?_; clear hK K
        refine BigFrame.wpQuiet_want rfl (fun K hK => ?_)
        refine BigFrame.quiet_move _ rfl ?_
        go_simp; refine hK _ ?_; clear hK K
        refine BigFrame.wpQuiet_want rfl (fun K hK => ?_)
        refine quiet_run (.int .i64 (k : Int)) (fun W hW => by go_simp) ?_
        go_simp; refine hK _ ?_; clear hK K
        refine BigFrame.wpQuiet_want rfl (fun K hK => ?_)
        refine BigFrame.quiet_move _ rfl ?_
        go_simp; refine hK _ ?_; clear hK K
        refine BigFrame.wpQuiet_want rfl (fun K hK => ?_)
        refine quiet_run (.bool true) (fun W hW => by go_simp) ?_
        go_simp; refine hK _ ?_; clear hK K
        refine BigFrame.wpQuiet_want rfl (fun K hK => ?_)
        refine quiet_run (.bool true) (fun W hW => by go_simp) ?_
        go_simp; refine hK _ ?_; clear hK K
        refine BigFrame.wpQuiet_want rfl (fun K hK => ?_)
        refine BigFrame.quiet_move _ rfl ?_
        go_simp; refine hK _ ?_; clear hK K
        refine BigFrame.wpQuiet_want rfl (fun K hK => ?_)
        refine BigFrame.quiet_move _ rfl ?_
        go_simp; refine hK _ ?_; clear hK K
        refine BigFrame.wpQuiet_want rfl (fun K hK => ?_)
        refine quiet_run (.int .i64 ((M + 1 : Nat) : Int)) (fun W hW => by go_simp) ?_
        go_simp; refine hK _ ?_; clear hK K
        refine BigFrame.wpQuiet_want rfl (fun K hK => ?_)
        refine BigFrame.quiet_move _ rfl ?_
        go_simp; refine hK _ ?_; clear hK K
        refine BigFrame.wpQuiet_want rfl (fun K hK => ?_)
        refine quiet_run (.int .i64 (M : Int)) (fun W hW => by go_simp) ?_
        go_simp; refine hK _ ?_; clear hK K
        refine BigFrame.wpQuiet_want rfl (fun K hK => ?_)
        refine quiet_run (.int .i64 ((M + 1 : Nat) : Int)) (fun W hW => by go_simp) ?_
        go_simp; refine hK _ ?_; clear hK K
        refine BigFrame.wpQuiet_want rfl (fun K hK => ?_)
        refine quiet_run (.bool true) (fun W hW => by go_simp) ?_
        go_simp; refine hK _ ?_; clear hK K
        refine BigFrame.wpQuiet_want rfl (fun K hK => ?_)
        refine quiet_run (.bool true) (fun W hW => by go_simp) ?_
        go_simp; refine hK _ ?_; clear hK K
        refine BigFrame.wpQuiet_want rfl (fun K hK => ?_)
        refine BigFrame.quiet_move _ rfl ?_
        go_simp; refine hK _ ?_; clear hK K
        refine BigFrame.wpQuiet_want rfl (fun K hK => ?_)
        refine BigFrame.quiet_move _ rfl ?_
        go_simp; refine hK _ ?_; clear hK K
        refine BigFrame.wpQuiet_want rfl (fun K hK => ?_)
        refine BigFrame.quiet_move _ rfl ?_
        go_simp; refine hK _ ?_; clear hK K
        refine BigFrame.wpQuiet_want rfl (fun K hK => ?_)
        refine quiet_run (.int .i64 (M : Int)) (fun W hW => by go_simp) ?_
        go_simp; refine hK _ ?_; clear hK K
        refine BigFrame.wpQuiet_want rfl (fun K hK => ?_)
        refine quiet_run (.pointer (some ⟨gp, op + M * 4, none⟩)) (fun W hW => by go_simp) ?_
        go_simp; refine hK _ ?_; clear hK K
        refine BigFrame.wpQuiet_want rfl (fun K hK => ?_)
        refine quiet_load_word _ rfl gp (op + M * 4) rfl y (fun W hW => c1 W hW) ?_
        go_simp; refine hK _ ?_; clear hK K
        refine BigFrame.wpQuiet_want rfl (fun K hK => ?_)
        refine BigFrame.quiet_move _ rfl ?_
        go_simp; refine hK _ ?_; clear hK K
        refine BigFrame.wpQuiet_want rfl (fun K hK => ?_)
        refine BigFrame.quiet_move _ rfl ?_
        go_simp; refine hK _ ?_; clear hK K
        refine BigFrame.wpQuiet_want rfl (fun K hK => ?_)
        refine quiet_run (.int .i64 (k1 : Int)) (fun W hW => by go_simp) ?_
        go_simp; refine hK _ ?_; clear hK K
        refine BigFrame.wpQuiet_want rfl (fun K hK => ?_)
        refine quiet_run (.pointer (some ⟨gy, oy + k1 * 4, none⟩)) (fun W hW => by go_simp) ?_
        go_simp; refine hK _ ?_; clear hK K
        refine BigFrame.wpQuiet_want rfl (fun K hK => ?_)
        refine quiet_load_word _ rfl gy (oy + k1 * 4) rfl y (fun W hW => c2 W hW) ?_
        go_simp; refine hK _ ?_; clear hK K
        refine BigFrame.wpQuiet_want rfl (fun K hK => ?_)
        refine quiet_run (.bool true) (fun W hW => by go_simp) ?_
        go_simp; refine hK _ ?_; clear hK K
        refine BigFrame.wpQuiet_want rfl (fun K hK => ?_)
        refine quiet_run (.bool true) (fun W hW => by go_simp) ?_
        go_simp; refine hK _ ?_; clear hK K
        refine BigFrame.wpQuiet_want rfl (fun K hK => ?_)
        refine BigFrame.quiet_move _ rfl ?_
        go_simp; refine hK _ ?_; clear hK K
        refine BigFrame.wpQuiet_want rfl (fun K hK => ?_)
        refine BigFrame.quiet_move _ rfl ?_
        go_simp; refine hK _ ?_; clear hK K
        refine BigFrame.wpQuiet_want rfl (fun K hK => ?_)
        refine BigFrame.quiet_move _ rfl ?_
        go_simp; refine hK _ ?_; clear hK K
        refine BigFrame.wpQuiet_want rfl (fun K hK => ?_)
        refine quiet_run (.int .i64 (M : Int)) (fun W hW => by go_simp) ?_
        go_simp; refine hK _ ?_; clear hK K
        refine BigFrame.wpQuiet_want rfl (fun K hK => ?_)
        refine quiet_run (.slice A1 M ct) (fun W hW => by go_simp) ?_
        go_simp; refine hK _ ?_; clear hK K
        refine BigFrame.wpQuiet_want rfl (fun K hK => ?_)
        refine BigFrame.quiet_move _ rfl ?_
        go_simp; refine hK _ ?_; clear hK K
        refine BigFrame.wpQuiet_want rfl (fun K hK => ?_)
        refine quiet_call 11 #[.slice A1 M ct, .slice As M cs] _ (fun W hW => by go_simp) (fun W hW => hsm W hW) ?_
        go_simp; refine hK _ ?_; clear hK K
        refine BigFrame.wpQuiet_want rfl (fun K hK => ?_)
        refine quiet_run (.bool true) (fun W hW => by go_simp) ?_
        go_simp; refine hK _ ?_; clear hK K
        refine BigFrame.wpQuiet_want rfl (fun K hK => ?_)
        refine quiet_run (.bool true) (fun W hW => by go_simp) ?_
        go_simp; refine hK _ ?_; clear hK K
        refine wpQuiet_nil ?_
        rintro Wz ⟨hkz, hbz⟩
        go_wp2_with fail
        go_ret
        exact ⟨rfl, hbz⟩
      · by_cases hkB : k ≤ M
        · obtain ⟨e1, e2⟩ := swap_out S k (by omega) (by omega) (by omega)
          have hsw := swap_any _ S (by omega) (k : Int) (by omega) (by omega) _ hs
          rw [e1, e2] at hsw
          clear e1 e2
          obtain ⟨e1, e2⟩ := swap_out S k (by omega) (by omega) (by omega)
          have hsw2 := fun v W => swap_any v S (by omega) (k : Int) (by omega) (by omega) W
          rw [e1, e2] at hsw2
          clear e1 e2
          have hdp := fun W => dup_any (.slice As M cs) S (by omega) (k : Int) (by omega) (by omega) W
          have hpp := fun W => pop_any (.slice As M cs) S (by omega) (k : Int) (by omega) (by omega) W
          obtain ⟨e1, e2⟩ := dup_in S k (by omega) (by omega) (by omega)
          rw [e1, e2] at hdp
          clear e1 e2
          obtain ⟨e1, e2⟩ := pop_in S k (by omega) (by omega) (by omega)
          rw [e1, e2] at hpp
          clear e1 e2
          have hq1 : (S ++ [dupX S (k : Int)])[M]? = some (dupX S (k : Int)) := by rw [List.getElem?_append_right (by omega), hM]; simp
          have hq2 := pop_last S k (by omega) (by omega)
          have hyl : (S.drop (S.length - k)).reverse.length = k := by rw [List.length_reverse, List.length_drop]; omega
          have hpl : (S ++ [dupX S (k : Int)]).length = M + 1 := by rw [List.length_append, hM]; rfl
          have htk : (S ++ [dupX S (k : Int)]).take M = S := by rw [← hM]; exact List.take_left
          generalize dupX S (k : Int) = y at *
          generalize (S.drop (S.length - k)).reverse = Y at *
          generalize S ++ [y] = Q at *
          have hkm : ¬ (k : Int) < (M : Int) := by omega
          have hkm2 : (k : Int) ≤ (M : Int) := by omega
          go_wp2_with fail
          refine (hpr' _).mono ?_
          rintro e w7 ⟨rfl, rfl⟩
          go_wp2_with fail
          refine hsw.mono ?_
          rintro e w8 ⟨vc, rfl, hc, hb⟩
          have B8 := B7.trans (hb.mono B7.size)
          have hs := hs.later hb
          clear hb B7 hsw
          go_wp2_with fail
          refine (hsw2 _ _ hc).mono ?_
          rintro e w9 ⟨vd, rfl, hd, hb⟩
          have B9 := B8.trans (hb.mono B8.size)
          have hs := hs.later hb
          clear hb B8 hsw2 hc
          go_wp2_with fail
          refine (hdp _ hs).mono ?_
          rintro e w10 ⟨vp, rfl, hp, hb⟩
          have B10 := B9.trans (hb.mono B9.size)
          have hs := hs.later hb
          have hd := hd.later hb
          clear hb B9 hdp
          go_wp2_with fail
          refine (hpp _ hs).mono ?_
          rintro e w11 ⟨vz, vy, rfl, -, hy, hb⟩
          have B11 := B10.trans (hb.mono B10.size)
          have hs := hs.later hb
          have hd := hd.later hb
          have hp := hp.later hb
          clear hb B10 hpp
          have hsame := same_any _ _ _ _ _ hd hs
          rw [decide_eq_true (show S = S from rfl)] at hsame
          go_wp2_with fail
          refine hsame.mono ?_
          rintro e w12 ⟨rfl, hb⟩
          have B12 := B11.trans (hb.mono B11.size)
          have hs := hs.later hb
          have hp := hp.later hb
          have hy := hy.later hb
          clear hb B11 hd hsame
          obtain ⟨Ap, cp, rfl, p1, p2, p3⟩ := hp.form
          obtain ⟨Ay, cy, rfl, y1, y2, y3⟩ := hy.form
          rw [hpl] at hp p1
          rw [hyl] at hy y1
          rw [hpl, hyl]
          obtain ⟨A1, ct, ht1, ht2⟩ := run_take _ _ Q M (by omega) hp
          rw [htk] at ht2
          obtain ⟨gp, op, rfl⟩ : ∃ g off, Ap = some ⟨g, off, none⟩ := by
            rcases hp with ⟨_, e⟩ | ⟨g, off, _, e, _⟩
            · rw [e] at hpl; simp at hpl
            · exact ⟨g, off, (Value.slice.inj e).1⟩
          obtain ⟨gy, oy, rfl⟩ : ∃ g off, Ay = some ⟨g, off, none⟩ := by
            rcases hy with ⟨_, e⟩ | ⟨g, off, _, e, _⟩
            · rw [e] at hyl; simp at hyl; omega
            · exact ⟨g, off, (Value.slice.inj e).1⟩
          obtain ⟨k1, hk1⟩ : ∃ q, k - 1 = q := ⟨_, rfl⟩
          rw [hk1] at hq2
          have i1 : IntKind.i64.wrap ((M : Int) + 1) = ((M + 1 : Nat) : Int) := (IntWalk.i64_in _ (by omega)).trans (by omega)
          have i2 : IntKind.i64.wrap ((k : Int) - 1) = (k1 : Int) := (IntWalk.i64_in _ (by omega)).trans (by omega)
          have j1 : (M : Int) < ((M + 1 : Nat) : Int) := by omega
          have j2 : (k1 : Int) < (k : Int) := by omega
          have j3 : ((M : Int) + 1 ≤ (M : Int)) = False := eq_false (by omega)
          have heq := fun W => run_equalIn_word W y y
          rw [decide_eq_true (show y = y from rfl)] at heq
          have c1 : ∀ V, (Keep w12 V ∧ Below w.heap.size w V) → ∀ i u, (wdV y)[i]? = some u → V.cell? ⟨gp, op + M * 4 + i, none⟩ = some u := fun V hV => by
            have := (hp.later hV.1).at_ M y hq1
            rw [Nat.mul_comm] at this
            exact this
          have c2 : ∀ V, (Keep w12 V ∧ Below w.heap.size w V) → ∀ i u, (wdV y)[i]? = some u → V.cell? ⟨gy, oy + k1 * 4 + i, none⟩ = some u := fun V hV => by
            have := (hy.later hV.1).at_ k1 y hq2
            rw [Nat.mul_comm] at this
            exact this
          have hsm : ∀ V, (Keep w12 V ∧ Below w.heap.size w V) → Calls Try.prog 11 #[.slice A1 M ct, .slice As M cs] V fun e W' => e = .returned (.bool true) ∧ (Keep w12 W' ∧ Below w.heap.size w W') := fun V hV => by
            have h := same_any _ _ _ _ V (ht2.later hV.1) (hs.later hV.1)
            rw [decide_eq_true (show S = S from rfl)] at h
            exact h.mono fun e W' h => ⟨h.1, hV.1.trans (h.2.mono hV.1.size), hV.2.trans (h.2.mono hV.2.size)⟩
          go_wp2_with fail
          refine wp_region_quiet_class (fun V => Keep w12 V ∧ Below w.heap.size w V) (by kernel_rfl) (by kernel_rfl) ⟨(Below.refl _ _).drew, B12.drew⟩ ?_
          refine BigFrame.wpQuiet_want rfl (fun K hK => ?_)
          refine BigFrame.quiet_move _ rfl ?_
          go_simp; refine hK _ ?_; clear hK K
          refine BigFrame.wpQuiet_want rfl (fun K hK => ?_)
          refine BigFrame.quiet_move _ rfl ?_
          go_simp; refine hK _ ?_; clear hK K
          refine BigFrame.wpQuiet_want rfl (fun K hK => ?_)
          refine BigFrame.quiet_move _ rfl ?_
          go_simp; refine hK _ ?_; clear hK K
          refine BigFrame.wpQuiet_want rfl (fun K hK => ?_)
          refine quiet_run (.int .i64 (k : Int)) (fun W hW => by go_simp) ?_
          go_simp; refine hK _ ?_; clear hK K
          refine BigFrame.wpQuiet_want rfl (fun K hK => ?_)
          refine BigFrame.quiet_move _ rfl ?_
          go_simp; refine hK _ ?_; clear hK K
          refine BigFrame.wpQuiet_want rfl (fun K hK => ?_)
          refine quiet_run (.bool true) (fun W hW => by go_simp) ?_
          go_simp; refine hK _ ?_; clear hK K
          refine BigFrame.wpQuiet_want rfl (fun K hK => ?_)
          refine quiet_run (.bool true) (fun W hW => by go_simp) ?_
          go_simp; refine hK _ ?_; clear hK K
          refine BigFrame.wpQuiet_want rfl (fun K hK => ?_)
          refine BigFrame.quiet_move _ rfl ?_
          go_simp; refine hK _ ?_; clear hK K
          refine BigFrame.wpQuiet_want rfl (fun K hK => ?_)
          refine BigFrame.quiet_move _ rfl ?_
          go_simp; refine hK _ ?_; clear hK K
          refine BigFrame.wpQuiet_want rfl (fun K hK => ?_)
          refine quiet_run (.int .i64 ((M + 1 : Nat) : Int)) (fun W hW => by go_simp) ?_
          go_simp; refine hK _ ?_; clear hK K
          refine BigFrame.wpQuiet_want rfl (fun K hK => ?_)
          refine BigFrame.quiet_move _ rfl ?_
          go_simp; refine hK _ ?_; clear hK K
          refine BigFrame.wpQuiet_want rfl (fun K hK => ?_)
          refine quiet_run (.int .i64 (M : Int)) (fun W hW => by go_simp) ?_
          go_simp; refine hK _ ?_; clear hK K
          refine BigFrame.wpQuiet_want rfl (fun K hK => ?_)
          refine quiet_run (.int .i64 ((M + 1 : Nat) : Int)) (fun W hW => by go_simp) ?_
          go_simp; refine hK _ ?_; clear hK K
          refine BigFrame.wpQuiet_want rfl (fun K hK => ?_)
          refine quiet_run (.bool true) (fun W hW => by go_simp) ?_
          go_simp; refine hK _ ?_; clear hK K
          refine BigFrame.wpQuiet_want rfl (fun K hK => ?_)
          refine quiet_run (.bool true) (fun W hW => by go_simp) ?_
          go_simp; refine hK _ ?_; clear hK K
          refine BigFrame.wpQuiet_want rfl (fun K hK => ?_)
          refine BigFrame.quiet_move _ rfl ?_
          go_simp; refine hK _ ?_; clear hK K
          refine BigFrame.wpQuiet_want rfl (fun K hK => ?_)
          refine BigFrame.quiet_move _ rfl ?_
          go_simp; refine hK _ ?_; clear hK K
          refine BigFrame.wpQuiet_want rfl (fun K hK => ?_)
          refine BigFrame.quiet_move _ rfl ?_
          go_simp; refine hK _ ?_; clear hK K
          refine BigFrame.wpQuiet_want rfl (fun K hK => ?_)
          refine quiet_run (.int .i64 (M : Int)) (fun W hW => by go_simp) ?_
          go_simp; refine hK _ ?_; clear hK K
          refine BigFrame.wpQuiet_want rfl (fun K hK => ?_)
          refine quiet_run (.pointer (some ⟨gp, op + M * 4, none⟩)) (fun W hW => by go_simp) ?_
          go_simp; refine hK _ ?_; clear hK K
          refine BigFrame.wpQuiet_want rfl (fun K hK => ?_)
          refine quiet_load_word _ rfl gp (op + M * 4) rfl y (fun W hW => c1 W hW) ?_
          go_simp; refine hK _ ?_; clear hK K
          refine BigFrame.wpQuiet_want rfl (fun K hK => ?_)
          refine BigFrame.quiet_move _ rfl ?_
          go_simp; refine hK _ ?_; clear hK K
          refine BigFrame.wpQuiet_want rfl (fun K hK => ?_)
          refine BigFrame.quiet_move _ rfl ?_
          go_simp; refine hK _ ?_; clear hK K
          refine BigFrame.wpQuiet_want rfl (fun K hK => ?_)
          refine quiet_run (.int .i64 (k1 : Int)) (fun W hW => by go_simp) ?_
          go_simp; refine hK _ ?_; clear hK K
          refine BigFrame.wpQuiet_want rfl (fun K hK => ?_)
          refine quiet_run (.pointer (some ⟨gy, oy + k1 * 4, none⟩)) (fun W hW => by go_simp) ?_
          go_simp; refine hK _ ?_; clear hK K
          refine BigFrame.wpQuiet_want rfl (fun K hK => ?_)
          refine quiet_load_word _ rfl gy (oy + k1 * 4) rfl y (fun W hW => c2 W hW) ?_
          go_simp; refine hK _ ?_; clear hK K
          refine BigFrame.wpQuiet_want rfl (fun K hK => ?_)
          refine quiet_run (.bool true) (fun W hW => by go_simp) ?_
          go_simp; refine hK _ ?_; clear hK K
          refine BigFrame.wpQuiet_want rfl (fun K hK => ?_)
          refine quiet_run (.bool true) (fun W hW => by go_simp) ?_
          go_simp; refine hK _ ?_; clear hK K
          refine BigFrame.wpQuiet_want rfl (fun K hK => ?_)
          refine BigFrame.quiet_move _ rfl ?_
          go_simp; refine hK _ ?_; clear hK K
          refine BigFrame.wpQuiet_want rfl (fun K hK => ?_)
          refine BigFrame.quiet_move _ rfl ?_
          go_simp; refine hK _ ?_; clear hK K
          refine BigFrame.wpQuiet_want rfl (fun K hK => ?_)
          refine BigFrame.quiet_move _ rfl ?_
          go_simp; refine hK _ ?_; clear hK K
          refine BigFrame.wpQuiet_want rfl (fun K hK => ?_)
          refine quiet_run (.int .i64 (M : Int)) (fun W hW => by go_simp) ?_
          go_simp; refine hK _ ?_; clear hK K
          refine BigFrame.wpQuiet_want rfl (fun K hK => ?_)
          refine quiet_run (.slice A1 M ct) (fun W hW => by go_simp) ?_
          go_simp; refine hK _ ?_; clear hK K
          refine BigFrame.wpQuiet_want rfl (fun K hK => ?_)
          refine BigFrame.quiet_move _ rfl ?_
          go_simp; refine hK _ ?_; clear hK K
          refine BigFrame.wpQuiet_want rfl (fun K hK => ?_)
          refine quiet_call 11 #[.slice A1 M ct, .slice As M cs] _ (fun W hW => by go_simp) (fun W hW => hsm W hW) ?_
          go_simp; refine hK _ ?_; clear hK K
          refine BigFrame.wpQuiet_want rfl (fun K hK => ?_)
          refine quiet_run (.bool true) (fun W hW => by go_simp) ?_
          go_simp; refine hK _ ?_; clear hK K
          refine BigFrame.wpQuiet_want rfl (fun K hK => ?_)
          refine quiet_run (.bool true) (fun W hW => by go_simp) ?_
          go_simp; refine hK _ ?_; clear hK K
          refine wpQuiet_nil ?_
          rintro Wz ⟨hkz, hbz⟩
          go_wp2_with fail
          go_ret
          exact ⟨rfl, hbz⟩
        · obtain ⟨e1, e2⟩ := swap_out S k (by omega) (by omega) (by omega)
          have hsw := swap_any _ S (by omega) (k : Int) (by omega) (by omega) _ hs
          rw [e1, e2] at hsw
          clear e1 e2
          obtain ⟨e1, e2⟩ := swap_out S k (by omega) (by omega) (by omega)
          have hsw2 := fun v W => swap_any v S (by omega) (k : Int) (by omega) (by omega) W
          rw [e1, e2] at hsw2
          clear e1 e2
          have hdp := fun W => dup_any (.slice As M cs) S (by omega) (k : Int) (by omega) (by omega) W
          have hpp := fun W => pop_any (.slice As M cs) S (by omega) (k : Int) (by omega) (by omega) W
          obtain ⟨e1, e2⟩ := dup_out S k (by omega) (by omega) (by omega)
          rw [e1, e2] at hdp
          clear e1 e2
          have e1 := pop_out S k (by omega) (by omega) (by omega)
          rw [e1] at hpp
          clear e1
          have hkm : ¬ (k : Int) < (M : Int) := by omega
          have hkm2 : ¬ (k : Int) ≤ (M : Int) := by omega
          go_wp2_with fail
          refine (hpr' _).mono ?_
          rintro e w7 ⟨rfl, rfl⟩
          go_wp2_with fail
          refine hsw.mono ?_
          rintro e w8 ⟨vc, rfl, hc, hb⟩
          have B8 := B7.trans (hb.mono B7.size)
          have hs := hs.later hb
          clear hb B7 hsw
          go_wp2_with fail
          refine (hsw2 _ _ hc).mono ?_
          rintro e w9 ⟨vd, rfl, hd, hb⟩
          have B9 := B8.trans (hb.mono B8.size)
          have hs := hs.later hb
          clear hb B8 hsw2 hc
          go_wp2_with fail
          refine (hdp _ hs).mono ?_
          rintro e w10 ⟨vp, rfl, hp, hb⟩
          have B10 := B9.trans (hb.mono B9.size)
          have hs := hs.later hb
          have hd := hd.later hb
          clear hb B9 hdp
          go_wp2_with fail
          refine (hpp _ hs).mono ?_
          rintro e w11 ⟨vz, vy, rfl, -, hy, hb⟩
          have B11 := B10.trans (hb.mono B10.size)
          have hs := hs.later hb
          have hd := hd.later hb
          have hp := hp.later hb
          clear hb B10 hpp
          have hsame := same_any _ _ _ _ _ hd hs
          rw [decide_eq_true (show S = S from rfl)] at hsame
          go_wp2_with fail
          refine hsame.mono ?_
          rintro e w12 ⟨rfl, hb⟩
          have B12 := B11.trans (hb.mono B11.size)
          have hs := hs.later hb
          have hp := hp.later hb
          have hy := hy.later hb
          clear hb B11 hd hsame
          have hsame := same_any _ _ _ _ _ hp hs
          rw [decide_eq_true (show S = S from rfl)] at hsame
          go_wp2_with fail
          refine hsame.mono ?_
          rintro e w13 ⟨rfl, hb⟩
          have B13 := B12.trans (hb.mono B12.size)
          go_wp2_with fail
          go_ret
          exact ⟨rfl, B13⟩
end Go.Proofs.Ythfopoeahphnjaa
