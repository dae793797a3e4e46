/- AppendSeq and Collect over top, by their walks. -/
import Derived.Test.YthfopoeahphnjaaSc
namespace Go.Proofs.Ythfopoeahphnjaa
open Go.RowKit Go.Shelf
set_option linter.unusedVariables false
set_option linter.unusedSimpArgs false
attribute [local go_sem] Oper.semAt_some wdV_size

theorem wpListIn_append_Sl {F : Fence} {n' : Nat} {P : Program} {w : World} {ops : Array Oper} {rest : List Oper} {o : Oper} {a : Act} {Q : Exit → Act → World → Prop} (hgd : o.guard = none) (s x : Operand) (t : TypeId)
    (ho : o.op = .call { callee := .builtin .append, args := #[s, x], argTypes := #[t, t] })
    (base : Nat) (e : TypeId) (i : TypeInfo) (z : Value) (size bytes : Nat) (ht : P.underlying t = some (.slice e)) (hi : P.info? e = some i) (hz : i.zero = some z)
    (hsize : i.size = size) (hby : i.bytes = bytes) (hzs : z.cells.size = size) (hsz : 0 < size)
    (v : Value) (n : Nat) (xs : List Value) (hs : a.eval s = v) (hown : Sl w base e size v n xs)
    (ad : Addr) (m c : Nat) (news : List Value) (hx : a.eval x = .slice (some ad) m c) (hl : news.length = m * size) (hnews : ∀ j u, news[j]? = some u → w.cell? (ad.add j) = some u) (h1 : ∀ u ∈ news, u.oneCell' = true)
    (h63 : n + m ≤ maxLen) (hbytes : (n + m) * bytes ≤ 140737488355328) (hbase : base ≤ w.heap.size)
    (h : ∀ v' w', Sl w' base e size v' (n + m) (xs ++ news) → w.grownBy w' v.ownBlock → (v'.ownBlock = v.ownBlock ∨ v'.ownBlock = some w.heap.size) → wpListIn F n' P ops Q rest (a.put o.dst v') w') : wpListIn F n' P ops Q (o :: rest) a w := by
  obtain ⟨v', w', hrun, h2, h3, h4⟩ := run_append_Sl (P := P) w base t o.type e i z size bytes ht hi hz hsize hby hzs hsz v n xs hown ad m c news hl hnews h1 h63 hbytes hbase
  refine wpListIn_plain hgd fun K hK => ?_
  unfold Oper.wpIn
  refine ⟨?_, ?_⟩
  · simp [Oper.about, ho, resolve, Target.leads]
  · rw [Oper.semAt_plain F _ _ (by rw [ho]; intro c hc'; cases hc')]
    simp only [execOp, ho, resolve, invoke, builtin, Sem.run_bind, Sem.run_pure, Result.andThen_ok, List.map_toArray, List.map_cons, List.map_nil, hs, hx, hrun]
    exact hK _ _ (h v' w' h2 h3 h4)


theorem Keeps.setCell {B : Nat} {W : World} {g : Nat} (hg : g < B) (j : Nat) (u : Value) : Keeps B W (W.setCell ⟨g, j, none⟩ u) :=
  ⟨by rw [size_setCell]; exact Nat.le_refl _, fun k o hk ho _ => (heap_setCell_other W ⟨g, j, none⟩ k u (by simp; omega)).trans ho⟩
theorem Sl.other27 {W : World} {base n y : Nat} {v x : Value} {xs : List Value} (h : Sl W base 25 4 v n xs) (hy : Holds_ W y 27 #[x]) : v.ownBlock ≠ some y := by
  rcases h.2 with ⟨rfl, _⟩ | ⟨g, cap, cur, fr, rfl, h2, h3, h4⟩
  · simp [Value.ownBlock]
  · intro e
    have : g = y := by simpa [Value.ownBlock] using e
    subst this
    unfold Holds_ at hy
    rw [h3] at hy
    cases hy
theorem Sl.keeps {W W' : World} {B base n : Nat} {v : Value} {xs : List Value} (h : Sl W base 25 4 v n xs) (hg : W.grownBy W' v.ownBlock) : Keeps B W W' :=
  Keeps.grown hg fun r e => .inr (by
    rcases h.2 with ⟨rfl, _⟩ | ⟨g, cap, cur, fr, rfl, h2, h3, h4⟩
    · cases e
    · have : g = r := by simpa [Value.ownBlock] using e
      subst this
      exact ⟨_, _, h3⟩)

theorem fold_word (x : Wd) : Array.foldl (fun cs (p : Value × Nat) => cs.setIfInBounds p.2 p.1) #[.int .u64 0, .int .u64 0, .int .u64 0, .int .u64 0] (wdV x).zipIdx 0 4 = wdV x := by
  simp [wdV, encW]
attribute [local go_sem] fold_word
theorem word_news {W : World} {g : Nat} {x : Wd} (h : Holds_ W g 25 (wdV x)) : ∀ j u, (encW x)[j]? = some u → W.cell? ((⟨g, 0, none⟩ : Addr).add j) = some u := by
  intro j u hu
  rw [show (⟨g, 0, none⟩ : Addr).add j = ⟨g, j, none⟩ from by unfold Addr.add; split <;> simp_all, h.cell]
  simpa [wdV] using hu
theorem encW_one (x : Wd) : ∀ u ∈ encW x, u.oneCell' = true := by
  intro u hu
  simp only [encW, List.mem_cons, List.not_mem_nil, or_false] at hu
  rcases hu with rfl | rfl | rfl | rfl <;> rfl
set_option maxRecDepth 100000 in
set_option maxHeartbeats 2000000 in
theorem appseq_any (v : Value) (L : List Wd) (hlen : L.length ≤ 100000) (Bp : Nat) (w : World) (hL : Ws w v L) (hBp : Holds_ w Bp 49 #[v]) :
    Calls Try.prog 27 #[.slice none 0 0, .func (.func 28) #[] #[.pointer (some ⟨Bp, 0, none⟩)]] w fun e W' => ∃ v', e = .returned v' ∧ Ws W' v' L.reverse ∧ Below w.heap.size w W' := by
  obtain ⟨i0, hi, hz0, hz1, hz2⟩ := info_parts infoz25
  refine (callsIn_wide (n := 9)).1 ?_
  refine callsIn_of_wp_marks Try.func27 rfl trivial ?_ rfl
  simp only [Try.ntmps27, List.size_toArray, List.length_cons, List.length_nil, Nat.reduceAdd, Nat.reduceSub, Array.replicate_succ, Array.replicate_zero, List.push_toArray, List.append_toArray, List.nil_append, List.cons_append]
  obtain ⟨y, hy⟩ : ∃ y, w.heap.size = y := ⟨_, rfl⟩
  gi_wp2_with fail
  refine wpIn_abs (fun V => Holds_ V y 27 #[.slice none 0 0] ∧ Holds_ V Bp 49 #[v] ∧ Below w.heap.size w V ∧ V.heap.size = y + 1) ?f0 ?g0
  case f0 =>
    subst hy
    exact ⟨Holds_.new w 27 _, hBp.alloc _, (Below.refl _ _).alloc (Nat.le_refl _) _, by simp⟩
  rintro V ⟨hY, hBpV, hbV, hVs⟩
  refine wpIn_rangeFunc_all (F := Fence.wide) rfl (by omega) (gf := 28) (lb := #[.pointer (some ⟨Bp, 0, none⟩)]) rfl trivial (enters_of Try.func28 (by kernel_rfl) rfl) (encs := encT) L.reverse w.heap.size V.heap.size hbV.size (Nat.le_refl _)
    (top_goes 8 (by omega) v L Bp w.heap.size V.heap.size w V rfl hL hlen hbV hBpV (Nat.le_refl _)) (fun _ => rfl)
    (fun k X => (∃ v', Holds_ X y 27 #[v'] ∧ Sl X w.heap.size 25 4 v' k (flat (L.reverse.take k))) ∧ Below w.heap.size w X ∧ V.heap.size ≤ X.heap.size)
    (fun s A' B' row hs hg hr => by
      obtain ⟨⟨v', h1, h2⟩, h3, h4⟩ := hs
      exact ⟨⟨v', h1.kept hg (fun r e => (hr r e).2), h2.keptOwn hg (fun r e => (hr r e).2)⟩, h3.grown hg h3.size (fun k e => by have := (hr k e).1; omega), Nat.le_trans h4 hg.size⟩)
    ⟨⟨_, hY, Sl.nil_ _ _ _ _⟩, hbV, Nat.le_refl _⟩
    (fun x a' X => ∃ Bx, Holds_ X Bx 25 (wdV x) ∧ a' = { tmps := #[.slice none 0 0, .func (.func 28) #[] #[.pointer (some ⟨Bp, 0, none⟩)], .pointer (some ⟨y, 0, none⟩), undef, .slice none 0 0, .pointer (some ⟨Bx, 0, none⟩), .func (.func 28) #[] #[.pointer (some ⟨Bp, 0, none⟩)], .agg (wdV x), undef, undef, undef, undef, undef], defers := [] })
    (fun x a' _ A' B' row hs hg hr => by obtain ⟨Bx, h2, h3⟩ := hs; exact ⟨Bx, h2.kept hg (fun r e => (hr r e).2), h3⟩) ?assign ?body ?done
  case assign =>
    rintro l2 k x X K ⟨⟨v', hY', hS'⟩, hbX, hXs⟩ hK
    dsimp only [encT]
    have hs := Holds_.new X 25 (wdV (0, 0, 0, 0))
    have hwX : w.heap.size ≤ X.heap.size := hbX.size
    gi_wp2_with (with_reducible show wpListIn _ _ _ _ _ (⟨none, _, _, _, _, _⟩ :: _) _ _; refine wpListIn_storeRow rfl 25 _ _ rfl X.heap.size (wdV x) rfl rfl 25 _ (Holds_.new X 25 _) ?s1 ?s2 (wdV_one x) ?_)
    case s1 => simpa [wdV_size] using info25
    case s2 => simp [wdV_size]
    refine hK _ _ ?_ ?_ ?_ ⟨X.heap.size, hs.putRow _, rfl⟩
    · exact (Keeps.alloc _ _ _).trans (Keeps.setRow hs _)
    · exact below_putRow ((Below.refl _ _).alloc hwX _) hwX _
    · exact ⟨⟨v', (hY'.alloc _).farRow (Nat.ne_of_lt hY'.lt) _, (hS'.alloc _).farRow (fun e => by have := (hS'.lt _ e).2; omega) _⟩, below_putRow (hbX.alloc hwX _) hwX _, by simp; omega⟩
  case body =>
    rintro l2 k x a' X hx ⟨⟨v', hY', hS'⟩, hbX, hXs⟩ ⟨Bx, hX, rfl⟩
    have q1 : X.cell? ⟨y, 0, none⟩ = some v' := hY'.cell 0
    have q2 : X.frozen? ⟨y, 0, none⟩ = false := hY'.free 0
    gi_wp2_with (first
      | (with_reducible show wpListIn _ _ _ _ _ (⟨some 9, _, _, _, _, _⟩ :: _) _ _; refine wpListIn_loadRow rfl 25 _ rfl Bx rfl 25 _ _ hX Try.underlying25 rfl (by rw [wdV_size]; exact info25) ?_)
      | (gi_at_builtin; refine wpListIn_append_Sl rfl _ _ 27 rfl w.heap.size 25 i0 (.agg (wdV (0, 0, 0, 0))) 4 32 Try.underlying27 hi hz0 hz1 hz2 rfl (by decide) _ _ _ rfl (hS'.alloc _) ⟨X.heap.size, 0, none⟩ 1 1 (encW x) rfl ?e0 ?e1 ?e2 ?e3 ?e4 ?e5 ?_))
    case e0 => rfl
    case e1 =>
      exact word_news (Holds_.new X 25 (wdV x))
    case e2 => exact encW_one x
    case e3 => have := (List.getElem?_eq_some_iff.1 hx).1; rw [List.length_reverse] at this; unfold maxLen; omega
    case e4 => have := (List.getElem?_eq_some_iff.1 hx).1; rw [List.length_reverse] at this; omega
    case e5 => have := hbX.size; simp; omega
    intro v2 w2 hS2 hg2 _
    have hwX : w.heap.size ≤ X.heap.size := hbX.size
    have hY2 : Holds_ w2 y 27 #[v'] := (hY'.alloc (.cells (wdV x) 25)).grown hg2 (fun e => hS'.other27 hY' e.symm)
    have q3 : w2.cell? ⟨y, 0, none⟩ = some v' := hY2.cell 0
    have q4 : w2.frozen? ⟨y, 0, none⟩ = false := hY2.free 0
    obtain ⟨A2, c2, rfl⟩ := hS2.shape
    have hk1 : Keeps V.heap.size X w2 := (Keeps.alloc _ _ _).trans ((hS'.alloc (.cells (wdV x) 25)).keeps hg2)
    have hb1 : Below w.heap.size X w2 := ((Below.refl _ _).alloc hwX _).grown hg2 (by simp; omega) (fun k e => (hS'.lt k e).1)
    have hfl : flat (List.take (k + 1) L.reverse) = flat (List.take k L.reverse) ++ encW x := by
      rw [List.take_add_one, hx, flat_append]
      simp [flat]
    gi_wp2_with fail
    have hsz2 := hk1.size
    rw [hy] at hb1 hbX
    rw [hVs] at hk1
    exact ⟨hk1.trans (Keeps.setCell (by omega) _ _), hb1.setCell (p := ⟨y, 0, none⟩) (Nat.le_refl _) _, ⟨.slice A2 (k + 1) c2, hY2.put 0 _, hS2.far (p := ⟨y, 0, none⟩) (hS2.other27 hY2) _⟩, (hbX.trans hb1).setCell (p := ⟨y, 0, none⟩) (Nat.le_refl _) _, by omega⟩
  case done =>
    rintro D X hD ⟨⟨v', hY', hS'⟩, hbX, hXs⟩ hKD
    have q1 : X.cell? ⟨y, 0, none⟩ = some v' := hY'.cell 0
    gi_wp2_with fail
    refine ⟨by simp, .inl ⟨D, _, rfl, run_takeDeferred hKD, _, results_tmp rfl _ _ _, _, rfl, ?_, ?_⟩⟩
    · rw [List.take_length] at hS'
      exact Ws.of_sl (hS'.keptOwn (grownBy_putObj' X D _) (fun r e => by cases e; exact ⟨_, hKD, rfl⟩))
    · exact hbX.grown (grownBy_putObj' _ D _) hbX.size (fun k e => by cases e; omega)
theorem collect_any (v : Value) (L : List Wd) (hlen : L.length ≤ 100000) (Bp : Nat) (w : World) (hL : Ws w v L) (hBp : Holds_ w Bp 49 #[v]) :
    Calls Try.prog 24 #[.func (.func 28) #[] #[.pointer (some ⟨Bp, 0, none⟩)]] w fun e W' => ∃ v', e = .returned v' ∧ Ws W' v' L.reverse ∧ Below w.heap.size w W' := by
  have h := appseq_any v L hlen Bp w hL hBp
  go_enter Try.func24, Try.ntmps24
  go_wp2_with fail
  refine h.mono ?_
  rintro e w1 ⟨v', rfl, hW, hB⟩
  go_wp2_with fail
  go_ret
  exact ⟨_, rfl, hW, hB⟩
end Go.Proofs.Ythfopoeahphnjaa
