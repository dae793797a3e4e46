/- wrong, Clone, Grow, Concat, Push, by their walks. -/
import Derived.Test.YthfopoeahphnjaaSa
import Derived.Lib.AppendZerosOnto
import Derived.Lib.SliceRun
namespace Go.Proofs.Ythfopoeahphnjaa
open Go.RowKit Go.Shelf
set_option linter.unusedVariables false
set_option linter.unusedSimpArgs false

/-- 'wrong': what a stack may not be asked for. -/
def wrongE (len n least : Int) : Int := if 1024 < len ∨ n < least then 1 else if len < n then 40 else 0
set_option maxHeartbeats 1000000 in
theorem wrong_any (v : Value) (L : List Wd) (n least : Int) (w : World) (h : Ws w v L) :
    Calls Try.prog 23 #[v, .int .i64 n, .int .i64 least] w fun e W' => e = .returned (.int .i64 (wrongE L.length n least)) ∧ w = W' := by
  obtain ⟨A, c, rfl, h1, h2, hn⟩ := h.form
  unfold wrongE
  by_cases hbig : 1024 < (L.length : Int)
  · rw [if_pos (.inl hbig)]
    go_enter Try.func23, Try.ntmps23
    go_wp2_with fail
    go_ret
    exact ⟨rfl, rfl⟩
  · by_cases hl : n < least
    · rw [if_pos (.inr hl)]
      go_enter Try.func23, Try.ntmps23
      go_wp2_with fail
      go_ret
      exact ⟨rfl, rfl⟩
    · rw [if_neg (by omega)]
      by_cases hu : (L.length : Int) < n
      · rw [if_pos hu]
        go_enter Try.func23, Try.ntmps23
        go_wp2_with fail
        go_ret
        exact ⟨rfl, rfl⟩
      · rw [if_neg hu]
        go_enter Try.func23, Try.ntmps23
        go_wp2_with fail
        go_ret
        exact ⟨rfl, rfl⟩

theorem Ws.news {w : World} {g off n c : Nat} {L : List Wd} (h : Ws w (.slice (some ⟨g, off, none⟩) n c) L) : ∀ j u, (flat L)[j]? = some u → w.cell? ((⟨g, off, none⟩ : Addr).add j) = some u := by
  intro j u hu
  rw [show (⟨g, off, none⟩ : Addr).add j = ⟨g, off + j, none⟩ from by unfold Addr.add; split <;> simp_all]
  rcases h with ⟨e, _⟩ | ⟨g', off', c', e, _, _, _, h5⟩
  · cases e
  · cases e
    exact h5 j u hu
theorem Sl.made (w : World) : Sl (w.alloc (.cells #[] 25)) w.heap.size 25 4 (.slice (some ⟨w.heap.size, 0, none⟩) 0 0) 0 [] :=
  ⟨rfl, .inr ⟨w.heap.size, 0, #[], (0, 0), rfl, Nat.le_refl _, heap_alloc_new w _, .inr rfl, Nat.le_refl _, by unfold maxLen; omega, rfl, rfl⟩⟩

set_option maxRecDepth 100000 in
set_option maxHeartbeats 1000000 in
theorem clone_any (v : Value) (L : List Wd) (hL : L.length ≤ 100000) (w : World) (h : Ws w v L) :
    Calls Try.prog 20 #[v] w fun e W' => ∃ v', e = .returned v' ∧ Ws W' v' L ∧ Below w.heap.size w W' := by
  obtain ⟨i0, hi, hz0, hz1, hz2⟩ := info_parts infoz25
  have q27 : ∀ (w : World) (a : Option Addr) (n c n' c' : Nat), (binOp .eql 27 (.slice a n c) (.slice none n' c')).run Try.prog w = .ok (.bool a.isNone) w := fun w a n c n' c' => Lib.run_eql_slice_nil w _ _ a n c n' c' Try.underlying27
  rcases h with ⟨rfl, rfl⟩ | ⟨g, off, c, rfl, h2, h3, h4, h5⟩
  · go_enter Try.func20, Try.ntmps20
    go_wp2_with fail
    go_ret
    exact ⟨_, rfl, Ws.nil_ _, Below.refl _ _⟩
  · have hW : Ws w (.slice (some ⟨g, off, none⟩) L.length c) L := .inr ⟨g, off, c, rfl, h2, h3, h4, h5⟩
    have hS := Sl.made w
    have hB := (Below.refl w.heap.size w).alloc (Nat.le_refl _) (.cells #[] 25)
    go_enter Try.func20, Try.ntmps20
    go_wp2_with (at_builtin; refine wpList_append_Sl _ rfl _ _ 27 rfl w.heap.size 25 i0 (.agg (wdV (0, 0, 0, 0))) 4 32 Try.underlying27 hi hz0 hz1 hz2 rfl (by decide) _ _ _ rfl hS ⟨g, off, none⟩ L.length c (flat L) rfl ?d0 ?d1 ?d2 ?d3 ?d4 ?d5 ?_)
    case d0 => rw [flat_length]; omega
    case d1 => exact (hW.alloc _).news
    case d2 => exact flat_ok L
    case d3 => unfold maxLen at *; omega
    case d4 => omega
    case d5 => simp
    intro v' w' hS' hg' _
    replace hS' : Sl w' w.heap.size 25 4 v' L.length (flat L) := by simpa using hS'
    have hB' : Below w.heap.size w w' := hB.grown (w' := w') hg' hB.size (fun k e => (hS.lt k e).1)
    go_wp2_with fail
    go_ret
    exact ⟨_, rfl, Ws.of_sl hS', hB'⟩

set_option maxRecDepth 100000 in
set_option maxHeartbeats 1000000 in
theorem grow_nil (n : Nat) (hn : n ≤ 100000) (w : World) :
    Calls Try.prog 26 #[.slice none 0 0, .int .i64 n] w fun e W' => ∃ v', e = .returned v' ∧ Sl W' w.heap.size 25 4 v' 0 [] ∧ Below w.heap.size w W' := by
  obtain ⟨i0, hi, hz0, hz1, hz2⟩ := info_parts infoz25
  by_cases h0 : n = 0
  · subst h0
    go_enter Try.func26, Try.ntmps26
    go_wp2_with fail
    go_ret
    exact ⟨_, rfl, Sl.nil_ _ _ _ _, Below.refl _ _⟩
  · have hG := grownCap_ge w (0 + n) 0 25
    have hG2 := grownCap_le_maxLen w (0 + n) 0 25 (by unfold maxLen; omega)
    have hr : ∀ ty, (Builtin.append_ #[27, 3] ty #[.slice none 0 0, .int .i64 (n : Int)]).run Try.prog w =
        .ok (.slice (some ⟨w.heap.size, 0, none⟩) n (grownCap w (0 + n) 0 25)) (w.drew.alloc (.cells (#[] ++ Builtin.zeroCells (wdV (0, 0, 0, 0)) n ++ Builtin.zeroCells (wdV (0, 0, 0, 0)) (grownCap w (0 + n) 0 25 - (0 + n))) 25)) := fun ty => by
      have h := Lib.run_append_grow_zeros w 27 3 ty 25 i0 (.agg (wdV (0, 0, 0, 0))) .i64 .i64 Try.underlying27 Try.underlying3 hi hz0 none 0 0 [] (run_firstCells_none w.drew i0.size 0 0 0) n (by omega) (by omega) (by omega) (by omega) (by rw [hz2]; omega) (by rw [hz2]; exact growslice_fits (by omega) (by omega))
      rw [Nat.zero_add] at h ⊢
      exact h
    rw [Nat.zero_add] at hr hG hG2
    have hsz : (#[] ++ Builtin.zeroCells (wdV (0, 0, 0, 0)) n ++ Builtin.zeroCells (wdV (0, 0, 0, 0)) (grownCap w n 0 25 - n)).size = grownCap w n 0 25 * 4 := by
      simp only [Array.size_append, size_zeroCells, wdV_size]
      simp
      omega
    generalize #[] ++ Builtin.zeroCells (wdV (0, 0, 0, 0)) n ++ Builtin.zeroCells (wdV (0, 0, 0, 0)) (grownCap w n 0 25 - n) = C at *
    generalize grownCap w n 0 25 = G at *
    have hn' : (0 : Int) < (n : Int) := by omega
    go_enter Try.func26, Try.ntmps26
    go_wp2_with (at_builtin; refine Lib.wpList_append_run _ rfl _ _ _ _ rfl _ _ rfl rfl _ _ (hr _) ?_)
    go_ret
    exact ⟨_, rfl, ⟨rfl, .inr ⟨w.heap.size, G, C, (0, 0), rfl, Nat.le_refl _, heap_alloc_new w.drew _, .inr rfl, Nat.zero_le _, hG2, hsz, by simp⟩⟩, (Below.refl _ _).drew.alloc (Nat.le_refl _) _⟩

/-- Nothing appended. -/
theorem run_append_Sl_none {w : World} {base n : Nat} {v : Value} {xs : List Value} (i : TypeInfo) (hi : Try.prog.info? 25 = some i) (ty : TypeId) (h : Sl w base 25 4 v n xs) : (Builtin.append_ #[27, 27] ty #[v, .slice none 0 0]).run Try.prog w = .ok v w := by
  rcases h.2 with ⟨rfl, rfl⟩ | ⟨g, cap, cur, fr, rfl, h2, h3, h4, h5, h6, h7, h8⟩
  · simp [Builtin.append_, run_underlying Try.underlying27, sizeOf, typeInfo, hi, Builtin.lenOf, Builtin.firstCells, storeCells]
  · simp [Builtin.append_, run_underlying Try.underlying27, sizeOf, typeInfo, hi, Builtin.lenOf, Builtin.firstCells, h5, storeCells]
theorem wpList_append_Ws {ops : Array Oper} {rest : List Oper} {o : Oper} {a : Act} {w : World} {Q : Exit → Act → World → Prop} (hgd : o.guard = none) (s x : Operand)
    (ho : o.op = .call { callee := .builtin .append, args := #[s, x], argTypes := #[27, 27] }) (base : Nat) (v : Value) (L : List Wd) (hs : a.eval s = v) (hown : Sl w base 25 4 v L.length (flat L))
    (u : Value) (M : List Wd) (hx : a.eval x = u) (hM : Ws w u M) (hlen : L.length + M.length ≤ 200000) (hbase : base ≤ w.heap.size)
    (h : ∀ v' w', Sl w' base 25 4 v' (L ++ M).length (flat (L ++ M)) → Below base w w' → wpList Try.prog ops Q rest (a.put o.dst v') w') : wpList Try.prog ops Q (o :: rest) a w := by
  obtain ⟨i0, hi, hz0, hz1, hz2⟩ := info_parts infoz25
  have hrun : ∃ v' w', (Builtin.append_ #[27, 27] o.type #[v, u]).run Try.prog w = .ok v' w' ∧ Sl w' base 25 4 v' (L ++ M).length (flat (L ++ M)) ∧ Below base w w' := by
    rcases hM with ⟨rfl, rfl⟩ | ⟨g, off, c, rfl, h2, h3, h4, h5⟩
    · refine ⟨v, w, run_append_Sl_none i0 hi _ hown, by rw [List.append_nil]; exact hown, Below.refl _ _⟩
    · have hW : Ws w (.slice (some ⟨g, off, none⟩) M.length c) M := .inr ⟨g, off, c, rfl, h2, h3, h4, h5⟩
      obtain ⟨v', w', r1, r2, r3, _⟩ := run_append_Sl (P := Try.prog) w base 27 o.type 25 i0 (.agg (wdV (0, 0, 0, 0))) 4 32 Try.underlying27 hi hz0 hz1 hz2 rfl (by decide) v L.length (flat L) hown ⟨g, off, none⟩ M.length c (flat M) (by rw [flat_length]; omega) hW.news (flat_ok M) (by unfold maxLen; omega) (by omega) hbase
      refine ⟨v', w', r1, by rw [flat_append, List.length_append]; exact r2, (Below.refl base w).grown r3 hbase (fun k e => (hown.lt k e).1)⟩
  obtain ⟨v', w', r1, r2, r3⟩ := hrun
  exact wpList_plain hgd fun _ hK => by
    unfold Oper.wp execOp
    simp only [ho, resolve, invoke, builtin, Sem.run_bind, Sem.run_pure, Result.andThen_ok, List.map_toArray, List.map_cons, List.map_nil, hs, hx, r1]
    exact hK _ _ (h v' w' r2 r3)

set_option maxRecDepth 100000 in
set_option maxHeartbeats 2000000 in
theorem concat_any (v1 v2 : Value) (L1 L2 : List Wd) (hL : L1.length + L2.length ≤ 100000) (g cap : Nat) (w : World) (hg : Holds_ w g 27 #[v1, v2]) (h1 : Ws w v1 L1) (h2 : Ws w v2 L2) :
    Calls Try.prog 21 #[.slice (some ⟨g, 0, none⟩) 2 cap] w fun e W' => ∃ v', e = .returned v' ∧ Ws W' v' (L1 ++ L2) ∧ Below w.heap.size w W' := by
  obtain ⟨i0, hi, hz0, hz1, hz2⟩ := info_parts infoz25
  obtain ⟨A1, c1, rfl, k1, m1, n1⟩ := h1.form
  obtain ⟨A2, c2, rfl, k2, m2, n2⟩ := h2.form
  have q0 : w.cell? ⟨g, 0, none⟩ = some (.slice A1 L1.length c1) := hg.cell 0
  have q1 : w.cell? ⟨g, 1, none⟩ = some (.slice A2 L2.length c2) := hg.cell 1
  have hgr := grow_nil (L1.length + L2.length) hL w
  have hw1 : IntKind.i64.wrap ((L1.length : Int) + (L2.length : Int)) = ((L1.length + L2.length : Nat) : Int) := (IntWalk.i64_in _ (by omega)).trans (by omega)
  go_enter Try.func21, Try.ntmps21
  go_wp2_with fail
  go_loopw [3, 11] (fun s i wr => w = wr ∧ ((i = .int .i64 (0 : Nat) ∧ s = .int .i64 0) ∨ (i = .int .i64 (1 : Nat) ∧ s = .int .i64 (L1.length : Nat)) ∨ (i = .int .i64 (2 : Nat) ∧ s = .int .i64 ((L1.length + L2.length : Nat) : Int))))
    (fun _ i _ => 2 - (intOf i).toNat)
  case atStart => exact ⟨rfl, .inl ⟨rfl, rfl⟩⟩
  case round =>
    obtain ⟨rfl, ⟨rfl, rfl⟩ | ⟨rfl, rfl⟩ | ⟨rfl, rfl⟩⟩ := hrel
    · go_wp2_with fail
      go_roundw
      case rel => exact ⟨trivial, .inr (.inl ⟨rfl, by go_num⟩)⟩
      case measure => simp [intOf]
    · have hnn : ¬ ((L1.length + L2.length : Nat) : Int) < 0 := by omega
      have hw1' := hw1
      generalize hsum : L1.length + L2.length = s at *
      go_wp2_with fail
      go_roundw
      case rel => exact ⟨trivial, .inr (.inr ⟨rfl, rfl⟩)⟩
      case measure => simp [intOf]
    · go_wp2_with fail
      refine hgr.mono ?_
      rintro e w2 ⟨v0, rfl, hS0, hB0⟩
      clear hgr hw1
      have hg2 := hg.below hB0 hg.lt
      have h1' := h1.later hB0
      have h2' := h2.later hB0
      clear q0 q1
      go_wp2_with fail
      go_loopw [6, 27] (fun v i W => Below w.heap.size w W ∧ ((i = .int .i64 (0 : Nat) ∧ Sl W w.heap.size 25 4 v ([] : List Wd).length (flat [])) ∨ (i = .int .i64 (1 : Nat) ∧ Sl W w.heap.size 25 4 v L1.length (flat L1)) ∨ (i = .int .i64 (2 : Nat) ∧ Sl W w.heap.size 25 4 v (L1 ++ L2).length (flat (L1 ++ L2)))))
        (fun _ i _ => 2 - (intOf i).toNat)
      case atStart => exact ⟨hB0, .inl ⟨rfl, hS0⟩⟩
      case round =>
        clear hg2 h1' h2' hS0 hB0
        obtain ⟨hB, ⟨rfl, hS⟩ | ⟨rfl, hS⟩ | ⟨rfl, hS⟩⟩ := hrel
        · have hgW := hg.below hB hg.lt
          have hM := h1.later hB
          have q0 : wr.cell? ⟨g, 0, none⟩ = some (.slice A1 L1.length c1) := hgW.cell 0
          have hbs := hB.size
          go_wp2_with (at_builtin; refine wpList_append_Ws rfl _ _ rfl w.heap.size _ [] rfl hS _ _ rfl hM ?d1 hbs ?_)
          case d1 => first | omega | (simp; omega)
          intro v' w' hS' hb'
          have hB' := hB.trans hb'
          clear hS hM q0 hgW
          go_wp2_with fail
          go_roundw
          case rel => exact ⟨hB', .inr (.inl ⟨rfl, hS'⟩)⟩
          case measure => simp [intOf]
        · have hgW := hg.below hB hg.lt
          have hM := h2.later hB
          have q0 : wr.cell? ⟨g, 1, none⟩ = some (.slice A2 L2.length c2) := hgW.cell 1
          have hbs := hB.size
          go_wp2_with (at_builtin; refine wpList_append_Ws rfl _ _ rfl w.heap.size _ L1 rfl hS _ _ rfl hM ?d1 hbs ?_)
          case d1 => first | omega | (simp; omega)
          intro v' w' hS' hb'
          have hB' := hB.trans hb'
          clear hS hM q0 hgW
          go_wp2_with fail
          go_roundw
          case rel => exact ⟨hB', .inr (.inr ⟨rfl, by rw [List.length_append]; exact hS'⟩)⟩
          case measure => simp [intOf]
        · go_wp2_with fail
          go_ret
          exact ⟨_, rfl, Ws.of_sl hS, hB⟩

/-- 'Push': the words behind, and how it ends. -/
def pushE (S L : List Wd) : Int := if 1024 < S.length then 1 else if 1024 < S.length + L.length then 41 else 0
def pushL (S L : List Wd) : List Wd := if pushE S L = 0 then S ++ L else S
set_option maxRecDepth 100000 in
set_option maxHeartbeats 2000000 in
theorem push_any (v u : Value) (S L : List Wd) (hS : S.length ≤ 5000) (hL : L.length ≤ 5000) (w : World) (h1 : Ws w v S) (h2 : Ws w u L) :
    Calls Try.prog 9 #[v, u] w fun e W' => ∃ v', e = .returned (.tuple #[v', .int .i64 (pushE S L)]) ∧ Ws W' v' (pushL S L) ∧ Below w.heap.size w W' := by
  unfold pushL pushE
  have hcl := clone_any v S (by omega) w h1
  by_cases hbig : 1024 < S.length
  · rw [if_pos hbig, if_neg (by decide)]
    obtain ⟨A1, c1, rfl, k1, m1, n1⟩ := h1.form
    obtain ⟨A2, c2, rfl, k2, m2, n2⟩ := h2.form
    have hbig' : (1024 : Int) < (S.length : Int) := by omega
    go_enter Try.func9, Try.ntmps9
    go_wp2_with fail
    refine hcl.mono ?_
    rintro e w1 ⟨v', rfl, hW, hB⟩
    go_wp2_with fail
    go_ret2
    exact ⟨_, rfl, hW, hB⟩
  · have hbig' : ¬ (1024 : Int) < (S.length : Int) := by omega
    by_cases hov : 1024 < S.length + L.length
    · rw [if_neg hbig, if_pos hov, if_neg (by decide)]
      obtain ⟨A1, c1, rfl, k1, m1, n1⟩ := h1.form
      obtain ⟨A2, c2, rfl, k2, m2, n2⟩ := h2.form
      have hov' : (1024 : Int) < (S.length : Int) + (L.length : Int) := by omega
      have hw1 : IntKind.i64.wrap ((S.length : Int) + (L.length : Int)) = (S.length : Int) + (L.length : Int) := IntWalk.i64_in _ (by omega)
      go_enter Try.func9, Try.ntmps9
      go_wp2_with fail
      refine hcl.mono ?_
      rintro e w1 ⟨v', rfl, hW, hB⟩
      go_wp2_with fail
      go_ret2
      exact ⟨_, rfl, hW, hB⟩
    · rw [if_neg hbig, if_neg hov, if_pos rfl]
      clear hcl
      have hcc := fun g cap W hg h1 h2 => concat_any v u S L (by omega) g cap W hg h1 h2
      obtain ⟨A1, c1, rfl, k1, m1, n1⟩ := h1.form
      obtain ⟨A2, c2, rfl, k2, m2, n2⟩ := h2.form
      have hov' : ¬ (1024 : Int) < (S.length : Int) + (L.length : Int) := by omega
      have hw1 : IntKind.i64.wrap ((S.length : Int) + (L.length : Int)) = (S.length : Int) + (L.length : Int) := IntWalk.i64_in _ (by omega)
      go_enter Try.func9, Try.ntmps9
      go_wp2_with fail
      refine (hcc w.heap.size _ _ (Holds_.new w 27 _) (h1.alloc _) (h2.alloc _)).mono ?_
      rintro e w1 ⟨v', rfl, hW, hB⟩
      have hB1 := ((Below.refl w.heap.size w).alloc (Nat.le_refl _) _).trans (hB.mono (by simp))
      go_wp2_with fail
      go_ret2
      exact ⟨_, rfl, hW, hB1⟩
end Go.Proofs.Ythfopoeahphnjaa
