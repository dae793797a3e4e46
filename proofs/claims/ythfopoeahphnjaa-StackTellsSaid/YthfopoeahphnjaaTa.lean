/- The document's own functions of layer 13, by their walks. -/
import Derived.Test.YthfopoeahphnjaaXp
namespace Go.Proofs.Ythfopoeahphnjaa
open Go.RowKit Go.Shelf
set_option linter.unusedVariables false
set_option linter.unusedSimpArgs false
attribute [local go_sem] wdV_size fold_word

set_option maxRecDepth 100000 in
set_option maxHeartbeats 1000000 in
theorem own_any (v : Value) (L : List Wd) (hL : L.length ≤ 100000) (w : World) (h : Ws w v L) :
    Calls Try.prog 22 #[v] w fun e W' => ∃ v', e = .returned v' ∧ Sl W' w.heap.size 25 4 v' L.length (flat L) ∧ Below w.heap.size w W' := by
  have hS0 : Sl w w.heap.size 25 4 (.slice none 0 0) ([] : List Wd).length (flat []) := Sl.nil_ _ _ _ _
  go_enter Try.func22, Try.ntmps22
  go_wp2_with (at_builtin; refine wpList_append_Ws rfl _ _ rfl w.heap.size _ [] rfl hS0 _ L rfl h ?d1 (Nat.le_refl _) ?_)
  case d1 => simp; omega
  intro v' w' hS hb
  go_wp2_with fail
  go_ret
  exact ⟨_, rfl, hS, hb⟩

set_option maxRecDepth 100000 in
set_option maxHeartbeats 2000000 in
theorem rpush_any (v u : Value) (S L : List Wd) (hS : S.length ≤ 5000) (hL : L.length ≤ 5000) (w : World) (h1 : Ws w v S) (h2 : Ws w u L) :
    Calls Try.prog 10 #[v, u] w fun e W' => ∃ v', e = .returned (.tuple #[v', .int .i64 (pushE S L)]) ∧ Ws W' v' (pushL S L) ∧ Below w.heap.size w W' := by
  unfold pushL pushE
  have hcl := own_any v S (by omega) w h1
  obtain ⟨A1, c1, rfl, k1, m1, n1⟩ := h1.form
  obtain ⟨A2, c2, rfl, k2, m2, n2⟩ := h2.form
  by_cases hbig : 1024 < S.length
  · rw [if_pos hbig, if_neg (by decide)]
    have hbig' : (1024 : Int) < (S.length : Int) := by omega
    go_enter Try.func10, Try.ntmps10
    go_wp2_with fail
    refine hcl.mono ?_
    rintro e w1 ⟨v', rfl, hW, hB⟩
    go_wp2_with fail
    go_ret2
    exact ⟨_, rfl, Ws.of_sl hW, hB⟩
  · rw [if_neg hbig]
    have hbig' : ¬ (1024 : Int) < (S.length : Int) := by omega
    have i1 : IntKind.i64.wrap ((S.length : Int) + (L.length : Int)) = ((S.length + L.length : Nat) : Int) := (IntWalk.i64_in _ (by omega)).trans (by omega)
    by_cases hover : 1024 < S.length + L.length
    · rw [if_pos hover, if_neg (by decide)]
      have hover' : (1024 : Int) < ((S.length + L.length : Nat) : Int) := by omega
      go_enter Try.func10, Try.ntmps10
      go_wp2_with fail
      refine hcl.mono ?_
      rintro e w1 ⟨v', rfl, hW, hB⟩
      go_wp2_with fail
      go_ret2
      exact ⟨_, rfl, Ws.of_sl hW, hB⟩
    · rw [if_neg hover, if_pos rfl]
      have hover' : ¬ (1024 : Int) < ((S.length + L.length : Nat) : Int) := by omega
      go_enter Try.func10, Try.ntmps10
      go_wp2_with fail
      refine hcl.mono ?_
      rintro e w1 ⟨v', rfl, hW, hB⟩
      have h2' := h2.later hB
      have hbs := hB.size
      clear hcl
      go_wp2_with (at_builtin; refine wpList_append_Ws rfl _ _ rfl w.heap.size _ S rfl hW _ L rfl h2' ?d1 hbs ?_)
      case d1 => omega
      intro v2 w2 hS2 hb2
      have hB2 := hB.trans hb2
      clear hW
      go_wp2_with fail
      go_ret2
      exact ⟨_, rfl, Ws.of_sl hS2, hB2⟩

set_option maxRecDepth 100000 in
set_option maxHeartbeats 2000000 in
theorem rdup_any (v : Value) (S : List Wd) (hS : S.length ≤ 5000) (n : Int) (hn : -9223372036854775808 ≤ n) (hn2 : n ≤ 9223372036854775807) (w : World) (h : Ws w v S) :
    Calls Try.prog 14 #[v, .int .i64 n] w fun e W' => ∃ v', e = .returned (.tuple #[v', .int .i64 (dupE S n)]) ∧ Ws W' v' (dupL S n) ∧ Below w.heap.size w W' := by
  have hcl := own_any v S (by omega) w h
  unfold dupL dupE
  by_cases he : wrongE S.length n 1 = 0
  · rw [if_pos he, if_pos he]
    obtain ⟨h1, h2, h3⟩ := wrongE_zero _ _ _ he
    obtain ⟨q, hq⟩ : ∃ q, S.length - n.toNat = q := ⟨_, rfl⟩
    have hql : q < S.length := by omega
    have hx : S[q]? = some (dupX S n) := by unfold dupX; rw [hq]; simp [List.getD, hql]
    generalize dupX S n = x at *
    have hp := fun u W h1 h2 => rpush_any v u S [x] hS (by simp) W h1 h2
    have hw1 : IntKind.i64.wrap ((S.length : Int) - n) = (q : Int) := (IntWalk.i64_in _ (by omega)).trans (by omega)
    have hqi : (q : Int) < (S.length : Int) := by omega
    obtain ⟨A, c, rfl, k1, k2, k3⟩ := h.form
    obtain ⟨g, off, rfl⟩ : ∃ g off, A = some ⟨g, off, none⟩ := by
      rcases h with ⟨_, e⟩ | ⟨g, off, _, e, _⟩
      · rw [e] at hql; simp at hql
      · exact ⟨g, off, (Value.slice.inj e).1⟩
    have hW1 := h.at_ q x hx
    rw [Nat.mul_comm] at hW1
    have j1 : ¬ (1024 : Int) < (S.length : Int) := by omega
    have j2 : ¬ n < 1 := by omega
    have j3 : ¬ (S.length : Int) < n := by omega
    clear hcl he
    have hB0 := Below.refl w.heap.size w
    go_enter Try.func14, Try.ntmps14
    go_wp2_with (with_reducible show wpList _ _ _ (⟨some 28, _, _, _, _, _⟩ :: _) _ _; refine wpList_loadWord rfl _ rfl g (off + q * 4) rfl x hW1 ?_)
    refine (hp _ _ (h.alloc _) (Ws.one (Holds_.new w 25 (wdV x)) _ (Nat.le_refl _) (by unfold maxLen; omega))).mono ?_
    rintro e w2 ⟨v', rfl, hW, hB⟩
    have hB2 := (hB0.alloc (Nat.le_refl _) _).trans (hB.mono (by simp))
    go_wp2_with fail
    go_ret2
    exact ⟨_, rfl, hW, hB2⟩
  · rw [if_neg he, if_neg he]
    obtain ⟨A, c, rfl, k1, k2, k3⟩ := h.form
    unfold wrongE at he ⊢
    by_cases j1 : 1024 < (S.length : Int)
    · rw [if_pos (.inl j1)]
      go_enter Try.func14, Try.ntmps14
      go_wp2_with fail
      refine hcl.mono ?_
      rintro e w1 ⟨v', rfl, hW, hB⟩
      go_wp2_with fail
      go_ret2
      exact ⟨_, rfl, Ws.of_sl hW, hB⟩
    · by_cases j2 : n < 1
      · rw [if_pos (.inr j2)]
        go_enter Try.func14, Try.ntmps14
        go_wp2_with fail
        refine hcl.mono ?_
        rintro e w1 ⟨v', rfl, hW, hB⟩
        go_wp2_with fail
        go_ret2
        exact ⟨_, rfl, Ws.of_sl hW, hB⟩
      · rw [if_neg (by omega)] at he ⊢
        have j3 : (S.length : Int) < n := by
          by_cases j : (S.length : Int) < n
          · exact j
          · rw [if_neg j] at he
            exact absurd rfl he
        rw [if_pos j3]
        clear he
        go_enter Try.func14, Try.ntmps14
        go_wp2_with fail
        refine hcl.mono ?_
        rintro e w1 ⟨v', rfl, hW, hB⟩
        go_wp2_with fail
        go_ret2
        exact ⟨_, rfl, Ws.of_sl hW, hB⟩

set_option maxRecDepth 100000 in
set_option maxHeartbeats 4000000 in
theorem rswap_any (v : Value) (S : List Wd) (hS : S.length ≤ 5000) (n : Int) (hn : -9223372036854775808 ≤ n) (hn2 : n ≤ 9223372036854775807) (w : World) (h : Ws w v S) :
    Calls Try.prog 16 #[v, .int .i64 n] w fun e W' => ∃ v', e = .returned (.tuple #[v', .int .i64 (swapE S n)]) ∧ Ws W' v' (swapL S n) ∧ Below w.heap.size w W' := by
  have hcl := own_any v S (by omega) w h
  unfold swapL swapE
  by_cases j1 : 1024 < (S.length : Int)
  · have e1 : wrongE S.length n 1 = 1 := by unfold wrongE; rw [if_pos (.inl j1)]
    rw [e1, if_neg (fun h => by have := h.1; omega), if_neg (by decide)]
    clear e1
    obtain ⟨A, c, rfl, k1, k2, k3⟩ := h.form
    go_enter Try.func16, Try.ntmps16
    go_wp2_with fail
    refine hcl.mono ?_
    rintro e w1 ⟨v', rfl, hW, hB⟩
    go_wp2_with fail
    go_ret2
    exact ⟨_, rfl, Ws.of_sl hW, hB⟩
  · by_cases j2 : n < 1
    · have e1 : wrongE S.length n 1 = 1 := by unfold wrongE; rw [if_pos (.inr j2)]
      rw [e1, if_neg (fun h => by have := h.1; omega), if_neg (by decide)]
      clear e1
      obtain ⟨A, c, rfl, k1, k2, k3⟩ := h.form
      go_enter Try.func16, Try.ntmps16
      go_wp2_with fail
      refine hcl.mono ?_
      rintro e w1 ⟨v', rfl, hW, hB⟩
      go_wp2_with fail
      go_ret2
      exact ⟨_, rfl, Ws.of_sl hW, hB⟩
    · by_cases j3 : (S.length : Int) ≤ n
      · have e1 : (if wrongE S.length n 1 = 0 ∧ n = S.length then (40 : Int) else wrongE S.length n 1) = 40 := by
          by_cases j4 : (S.length : Int) < n
          · have e2 : wrongE S.length n 1 = 40 := by unfold wrongE; rw [if_neg (by omega), if_pos j4]
            rw [e2, if_neg (fun h => by have := h.1; omega)]
          · have e2 : wrongE S.length n 1 = 0 := by unfold wrongE; rw [if_neg (by omega), if_neg j4]
            rw [e2, if_pos ⟨rfl, by omega⟩]
        rw [e1, if_neg (by decide)]
        clear e1
        obtain ⟨A, c, rfl, k1, k2, k3⟩ := h.form
        go_enter Try.func16, Try.ntmps16
        go_wp2_with fail
        refine hcl.mono ?_
        rintro e w1 ⟨v', rfl, hW, hB⟩
        go_wp2_with fail
        go_ret2
        exact ⟨_, rfl, Ws.of_sl hW, hB⟩
      · have he : wrongE S.length n 1 = 0 := by unfold wrongE; rw [if_neg (by omega), if_neg (by omega)]
        rw [he, if_neg (fun h => by have := h.2; omega), if_pos rfl]
        clear he
        obtain ⟨m, hm⟩ : ∃ m, n.toNat = m := ⟨_, rfl⟩
        obtain rfl : n = (m : Int) := by omega
        obtain ⟨T, hT⟩ : ∃ T, S.length - 1 = T := ⟨_, rfl⟩
        obtain ⟨q, hq⟩ : ∃ q, T - m = q := ⟨_, rfl⟩
        have hx : S[q]? = some (S.getD q (0, 0, 0, 0)) := by simp [List.getD, show q < S.length by omega]
        have hy : S[T]? = some (S.getD T (0, 0, 0, 0)) := by simp [List.getD, show T < S.length by omega]
        have hto : swapTo S m = (S.set T (S.getD q (0, 0, 0, 0))).set q (S.getD T (0, 0, 0, 0)) := by unfold swapTo; rw [hT, hq]
        rw [hm, hto]
        generalize S.getD q (0, 0, 0, 0) = x at *
        generalize S.getD T (0, 0, 0, 0) = y at *
        clear hto
        have hw1 : IntKind.i64.wrap ((S.length : Int) - 1) = (T : Int) := (IntWalk.i64_in _ (by omega)).trans (by omega)
        have hw2 : IntKind.i64.wrap ((T : Int) - (m : Int)) = (q : Int) := (IntWalk.i64_in _ (by omega)).trans (by omega)
        obtain ⟨A, c, rfl, k1, k2, k3⟩ := h.form
        have hTl : T < S.length := by omega
        have hql : q < S.length := by omega
        have j5 : (T : Int) < (S.length : Int) := by omega
        have j6 : (q : Int) < (S.length : Int) := by omega
        have j7 : ¬ (S.length : Int) ≤ (m : Int) := j3
        obtain ⟨g', off, rfl⟩ : ∃ g off, A = some ⟨g, off, none⟩ := by
          rcases h with ⟨_, e⟩ | ⟨g, off, _, e, _⟩
          · rw [e] at hql; simp at hql
          · exact ⟨g, off, (Value.slice.inj e).1⟩
        go_enter Try.func16, Try.ntmps16
        go_wp2_with fail
        refine hcl.mono ?_
        rintro e w1 ⟨v', rfl, hW, hB⟩
        obtain ⟨g, cap, rfl, g1, g2, g3, g4⟩ := hW.form (by omega)
        clear hcl
        have h1 := h.later hB
        have c1' := h1.at_ q x hx
        rw [Nat.mul_comm] at c1'
        obtain ⟨W2, r1, r2, r3⟩ := run_store_word hW T (by omega) x
        have hB2 : Below w.heap.size w W2 := hB.grown r3 hB.size (fun k e => by cases e; omega)
        have h2 := h.later hB2
        have c2' := h2.at_ T y hy
        rw [Nat.mul_comm] at c2'
        obtain ⟨W3, s1, s2, s3⟩ := run_store_word r2 q (by rw [List.length_set]; omega) y
        have hB3 : Below w.heap.size w W3 := hB2.grown s3 hB2.size (fun k e => by cases e; omega)
        go_wp2_with (first
          | (with_reducible show wpList _ _ _ (⟨some 35, _, _, _, _, _⟩ :: _) _ _; refine wpList_loadWord rfl _ rfl g' (off + q * 4) rfl x c1' ?_)
          | (with_reducible show wpList _ _ _ (⟨some 48, _, _, _, _, _⟩ :: _) _ _; refine wpList_loadWord rfl _ rfl g' (off + T * 4) rfl y c2' ?_)
          | (with_reducible show wpList _ _ _ (⟨none, _, _, _, _, _⟩ :: _) _ _; refine wpList_storeWord rfl _ _ rfl ⟨g, T * 4, none⟩ x rfl rfl r1 ?_)
          | (with_reducible show wpList _ _ _ (⟨none, _, _, _, _, _⟩ :: _) _ _; refine wpList_storeWord rfl _ _ rfl ⟨g, q * 4, none⟩ y rfl rfl s1 ?_))
        go_ret2
        exact ⟨_, rfl, Ws.of_sl s2, hB3⟩

theorem popB_take (S : List Wd) (m : Nat) (hm : m ≤ S.length) : (S.drop (S.length - m)).reverse = S.reverse.take m := by
  rw [List.reverse_drop]
  congr 1
  omega
set_option maxRecDepth 100000 in
set_option maxHeartbeats 4000000 in
theorem rpop_any (v : Value) (S : List Wd) (hS : S.length ≤ 5000) (n : Int) (hn : -9223372036854775808 ≤ n) (hn2 : n ≤ 9223372036854775807) (w : World) (h : Ws w v S) :
    Calls Try.prog 18 #[v, .int .i64 n] w fun e W' => ∃ v1 v2, e = .returned (.tuple #[v1, v2, .int .i64 (popE S n)]) ∧ Ws W' v1 (popA S n) ∧ Ws W' v2 (popB S n) ∧ Below w.heap.size w W' := by
  have hcl := own_any v S (by omega) w h
  unfold popA popB popE
  by_cases he : wrongE S.length n 0 = 0
  · obtain ⟨h1, h2, h3⟩ := wrongE_zero _ _ _ he
    rw [he, if_pos rfl, if_pos rfl]
    obtain ⟨m, hm⟩ : ∃ m, n.toNat = m := ⟨_, rfl⟩
    obtain rfl : n = (m : Int) := by omega
    rw [hm, popB_take S m (by omega)]
    obtain ⟨T, hT⟩ : ∃ T : Int, IntKind.i64.wrap ((S.length : Int) - 1) = T := ⟨_, rfl⟩
    have hT' : T = (S.length : Int) - 1 := by rw [← hT]; exact IntWalk.i64_in _ (by omega)
    obtain ⟨d, hd⟩ : ∃ d, S.length - m = d := ⟨_, rfl⟩
    have hw2 : IntKind.i64.wrap ((S.length : Int) - (m : Int)) = (d : Int) := (IntWalk.i64_in _ (by omega)).trans (by omega)
    rw [hd]
    obtain ⟨A, c, rfl, k1, k2, k3⟩ := h.form
    have j1 : ¬ (1024 : Int) < (S.length : Int) := by omega
    have j2 : ¬ (m : Int) < 0 := by omega
    have j3 : ¬ (S.length : Int) < (m : Int) := by omega
    clear he hcl
    have hSn : Sl w w.heap.size 25 4 (.slice none 0 0) ((S.reverse).take 0).length (flat ((S.reverse).take 0)) := Sl.nil_ _ _ _ _
    go_enter Try.func18, Try.ntmps18
    go_wp2_with fail
    go_loopw [7, 8] (fun o i wr => ∃ j : Nat, j ≤ m ∧ i = .int .i64 j ∧ Sl wr w.heap.size 25 4 o ((S.reverse).take j).length (flat ((S.reverse).take j)) ∧ Below w.heap.size w wr)
      (fun _ i _ => m - (intOf i).toNat)
    case atStart => exact ⟨0, by omega, rfl, hSn, Below.refl _ _⟩
    case round =>
      obtain ⟨j, hj, rfl, hO, hB⟩ := hrel
      have hR := h.later hB
      by_cases hjl : j < m
      · obtain ⟨q, hq⟩ : ∃ q, S.length - 1 - j = q := ⟨_, rfl⟩
        have hql : q < S.length := by omega
        obtain ⟨x, hx⟩ : ∃ x, S[q]? = some x := ⟨_, List.getElem?_eq_getElem hql⟩
        have hx2 : S.reverse[j]? = some x := by rw [List.getElem?_reverse (by omega), hq, hx]
        have htk : (S.reverse).take (j + 1) = (S.reverse).take j ++ [x] := by rw [List.take_add_one, hx2]; rfl
        have j4 : (j : Int) < (m : Int) := by omega
        have j5 : (q : Int) < (S.length : Int) := by omega
        have i1 : IntKind.i64.wrap (T - (j : Int)) = (q : Int) := (IntWalk.i64_in _ (by omega)).trans (by omega)
        obtain ⟨g, off, rfl⟩ : ∃ g off, A = some ⟨g, off, none⟩ := by
          rcases h with ⟨_, e⟩ | ⟨g, off, _, e, _⟩
          · rw [e] at hql; simp at hql
          · exact ⟨g, off, (Value.slice.inj e).1⟩
        have hW1 := hR.at_ q x hx
        rw [Nat.mul_comm] at hW1
        have hbs := hB.size
        have hlen : ((S.reverse).take j).length ≤ 5000 := by rw [List.length_take, List.length_reverse]; omega
        clear hT' hw2
        generalize (S.reverse).take j = O at *
        go_wp2_with (first
          | (with_reducible show wpList _ _ _ (⟨some 37, _, _, _, _, _⟩ :: _) _ _; refine wpList_loadWord rfl _ rfl g (off + q * 4) rfl x hW1 ?_)
          | (at_builtin; refine wpList_append_Ws rfl _ _ rfl w.heap.size _ O rfl (hO.alloc _) _ [x] rfl (Ws.one (Holds_.new wr 25 (wdV x)) _ (Nat.le_refl _) (by unfold maxLen; omega)) ?d1 ?d2 ?_))
        case d1 => simp; omega
        case d2 => simp; omega
        intro v3 w3 hO3 hb3
        have hB3 : Below w.heap.size w w3 := (hB.alloc hbs _).trans hb3
        go_wp2_with fail
        go_roundw
        case rel => exact ⟨j + 1, by omega, by go_num, by rw [htk, List.length_append]; exact hO3, hB3⟩
        case measure => simp [intOf]; omega
      · obtain rfl : j = m := by omega
        obtain ⟨A1, c1, ht1, ht2⟩ := run_take _ _ S d (by omega) hR
        have hcl := own_any _ _ (by rw [List.length_take]; omega) wr ht2
        clear hT'
        have hbs := hB.size
        go_wp2_with (with_reducible show wpList _ _ _ (⟨some 45, _, _, _, _, _⟩ :: _) _ _; refine wpList_sliceRun rfl 27 _ _ _ _ rfl (.slice A S.length c) none (some (.int .i64 d)) none _ rfl rfl rfl rfl (ht1 _) ?_)
        refine hcl.mono ?_
        rintro e w1 ⟨v', rfl, hW, hb⟩
        have hB1 := hB.trans (hb.mono hbs)
        have hO1 := (Ws.of_sl hO).later hb
        clear hO
        go_wp2_with fail
        go_ret3
        exact ⟨_, _, rfl, Ws.of_sl hW, hO1, hB1⟩
  · rw [if_neg he, if_neg he]
    obtain ⟨A, c, rfl, k1, k2, k3⟩ := h.form
    unfold wrongE at he ⊢
    by_cases j1 : 1024 < (S.length : Int)
    · rw [if_pos (.inl j1)]
      go_enter Try.func18, Try.ntmps18
      go_wp2_with fail
      refine hcl.mono ?_
      rintro e w1 ⟨v', rfl, hW, hB⟩
      go_wp2_with fail
      go_ret3
      exact ⟨_, _, rfl, Ws.of_sl hW, Ws.nil_ _, hB⟩
    · by_cases j2 : n < 0
      · rw [if_pos (.inr j2)]
        go_enter Try.func18, Try.ntmps18
        go_wp2_with fail
        refine hcl.mono ?_
        rintro e w1 ⟨v', rfl, hW, hB⟩
        go_wp2_with fail
        go_ret3
        exact ⟨_, _, rfl, Ws.of_sl hW, Ws.nil_ _, hB⟩
      · rw [if_neg (by omega)] at he ⊢
        have j3 : (S.length : Int) < n := by
          by_cases j : (S.length : Int) < n
          · exact j
          · rw [if_neg j] at he
            exact absurd rfl he
        rw [if_pos j3]
        clear he
        go_enter Try.func18, Try.ntmps18
        go_wp2_with fail
        refine hcl.mono ?_
        rintro e w1 ⟨v', rfl, hW, hB⟩
        go_wp2_with fail
        go_ret3
        exact ⟨_, _, rfl, Ws.of_sl hW, Ws.nil_ _, hB⟩
end Go.Proofs.Ythfopoeahphnjaa
