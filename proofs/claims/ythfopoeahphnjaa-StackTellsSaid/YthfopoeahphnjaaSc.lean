/- The iterators under Pop: Backward, top, AppendSeq, Collect, by their walks. -/
import Derived.Test.YthfopoeahphnjaaSb
import Derived.Test.YthfopoeahphnjaaRf
namespace Go.Proofs.Ythfopoeahphnjaa
open Go.RowKit Go.Shelf
set_option linter.unusedVariables false
set_option linter.unusedSimpArgs false
attribute [local go_sem] Oper.semAt_some

theorem wpListIn_loadWord {F : Fence} {n : Nat} {ops : Array Oper} {rest : List Oper} {o : Oper} {a : Act} {w : World} {Q : Exit → Act → World → Prop} (hgd : o.guard = none) (x : Operand) (ho : o.op = .load 25 x)
    (g off : Nat) (hx : a.eval x = .pointer (some ⟨g, off, none⟩)) (y : Wd) (hg : ∀ j u, (wdV y)[j]? = some u → w.cell? ⟨g, off + j, none⟩ = some u)
    (h : wpListIn F n Try.prog ops Q rest (a.put o.dst (.agg (wdV y))) w) : wpListIn F n Try.prog ops Q (o :: rest) a w := by
  refine wpListIn_plain hgd fun K hK => ?_
  unfold Oper.wpIn
  refine ⟨?_, ?_⟩
  · simp [Oper.about, ho]
  · rw [Oper.semAt_plain F _ _ (by rw [ho]; intro c hc'; cases hc')]
    simp [execOp, ho, hx, Instr.loadAt, Instr.sureAddr, run_load_word w g off y hg, Result.andThen]
    exact hK _ _ h

theorem ret_i {k : IntKind} {a b : Int} (h : a = b) : Value.int k a = .int k b := by rw [h]
/-- What Backward goes through: places and words, the last one first. -/
def backL (L : List Wd) : List (Nat × Wd) := (List.range L.length).map fun k => (L.length - 1 - k, L.getD (L.length - 1 - k) (0, 0, 0, 0))
def encB (p : Nat × Wd) : Array Value := #[.int .i64 (p.1 : Nat), .agg (wdV p.2)]
theorem backL_length (L : List Wd) : (backL L).length = L.length := by simp [backL]
theorem backL_get (L : List Wd) (k : Nat) (hk : k < L.length) : (backL L)[k]? = some (L.length - 1 - k, L.getD (L.length - 1 - k) (0, 0, 0, 0)) := by simp [backL, hk]

theorem back_any (v : Value) (A : Option Addr) (n c : Nat) (hv : v = .slice A n c) (w : World) :
    Calls Try.prog 29 #[v] w fun e W' => e = .returned (.func (.func 30) #[] #[.pointer (some ⟨w.heap.size, 0, none⟩)]) ∧ w.alloc (.cells #[v] 49) = W' := by
  subst hv
  go_enter Try.func29, Try.ntmps29
  go_wp2
  go_ret
  exact ⟨rfl, rfl⟩
theorem top_any (v : Value) (A : Option Addr) (n c : Nat) (hv : v = .slice A n c) (w : World) :
    Calls Try.prog 25 #[v] w fun e W' => e = .returned (.func (.func 28) #[] #[.pointer (some ⟨w.heap.size, 0, none⟩)]) ∧ w.alloc (.cells #[v] 49) = W' := by
  subst hv
  go_enter Try.func25, Try.ntmps25
  go_wp2
  go_ret
  exact ⟨rfl, rfl⟩

set_option maxRecDepth 100000 in
set_option maxHeartbeats 2000000 in
theorem back_goes (n : Nat) (v : Value) (L : List Wd) (Bs n0 B : Nat) (w0 w : World) (hn0 : w0.heap.size = n0) (hL : Ws w0 v L) (hlen : L.length ≤ 100000) (hb : Below n0 w0 w) (hBs : Holds_ w Bs 49 #[v]) (hBB : B ≤ Bs) :
    GoesAll Fence.wide n Try.prog 30 #[.pointer (some ⟨Bs, 0, none⟩)] encB (backL L) n0 B w := fun l J W hW hJ hY h0 => by
  subst hn0
  refine callsIn_of_wp Try.func30 rfl trivial ?_ rfl
  simp only [Try.ntmps30, List.size_toArray, List.length_cons, List.length_nil, Nat.reduceAdd, Nat.reduceSub, Array.replicate_succ, Array.replicate_zero, List.push_toArray, List.append_toArray, List.nil_append, List.cons_append]
  have hbW : Below w0.heap.size w0 W := hb.trans (hW.mono hb.size)
  have hH := hBs.below hW hBs.lt
  obtain ⟨A, c, rfl, k1, k2, k3⟩ := hL.form
  have q : W.cell? ⟨Bs, 0, none⟩ = some (.slice A L.length c) := hH.cell 0
  have hw1 : IntKind.i64.wrap ((L.length : Int) - 1) = (L.length : Int) - 1 := IntWalk.i64_in _ (by omega)
  have hbl := backL_length L
  obtain ⟨m, hm⟩ : ∃ m, L.length = m := ⟨_, rfl⟩
  rw [hm] at hH hbl k1 q hw1
  gi_wp2_with fail
  gi_loopw [3] (fun i wr => ∃ k : Nat, k ≤ m ∧ i = .int .i64 ((m : Int) - 1 - (k : Int)) ∧ J k wr ∧ Below w0.heap.size w0 wr ∧ Holds_ wr Bs 49 #[.slice A m c])
    (fun i _ => (intOf i + 1).toNat)
  case atStart => exact ⟨0, by omega, by simp, h0, hbW, hH⟩
  case round =>
    clear hH q hbW h0
    obtain ⟨k, hk, rfl, hJk, hbk, hHk⟩ := hrel
    by_cases hlt : k < m
    · obtain ⟨p, hp⟩ : ∃ p, m - 1 - k = p := ⟨_, rfl⟩
      have hpi : (m : Int) - 1 - (k : Int) = (p : Int) := by omega
      rw [hpi]
      obtain ⟨g, off, rfl⟩ : ∃ g off, A = some ⟨g, off, none⟩ := by
        rcases hL with ⟨_, e⟩ | ⟨g, off, _, e, _⟩
        · rw [e] at hm; simp at hm; omega
        · exact ⟨g, off, (Value.slice.inj e).1⟩
      have hxk := backL_get L k (by omega)
      rw [hm, hp] at hxk
      have hxp : L[p]? = some (L.getD p (0, 0, 0, 0)) := by
        have hpl : p < L.length := by omega
        simp [List.getD, hpl]
      have hW1 := (hL.later hbk).at_ p _ hxp
      rw [Nat.mul_comm] at hW1
      generalize L.getD p (0, 0, 0, 0) = x at *
      obtain ⟨fn, tmps, assign, body, hy, hR⟩ := hY k (p, x) wr hxk hJk
      dsimp only [encB] at hy
      have q : wr.cell? ⟨Bs, 0, none⟩ = some (.slice (some ⟨g, off, none⟩) m c) := hHk.cell 0
      have hpm : (p : Int) < (m : Int) := by omega
      have hp0 : 0 ≤ (p : Int) := by omega
      have hw2 : IntKind.i64.wrap ((p : Int) - 1) = (p : Int) - 1 := IntWalk.i64_in _ (by omega)
      gi_wp2_with (with_reducible show wpListIn _ _ _ _ _ (⟨some 16, _, _, _, _, _⟩ :: _) _ _; refine wpListIn_loadWord rfl _ rfl g (off + p * 4) rfl x hW1 ?_)
      refine ⟨fun h => (by cases h), hR.mono ?_⟩
      rintro e W3 ⟨rfl, hJ3, hb3, hk3⟩
      have hH3 : Holds_ W3 Bs 49 #[.slice (some ⟨g, off, none⟩) m c] := hk3.same Bs _ hBB hHk (fun _ _ h => by cases h)
      have hb3' := hbk.trans hb3
      gi_wp2_with fail
      go_roundw
      case rel => exact ⟨k + 1, by omega, ret_i (by omega), hJ3, hb3', hH3⟩
      case measure => first | (simp [intOf]; done) | (simp [intOf]; omega)
    · obtain rfl : k = m := by omega
      have hneg : ¬ 0 ≤ (k : Int) - 1 - (k : Int) := by omega
      gi_wp2_with fail
      go_end0
      exact ⟨⟨_, rfl⟩, by first | exact hJk | (rw [hbl]; exact hJk)⟩

theorem Keeps.setRow {B g : Nat} {W : World} {old : Array Value} (h : Holds_ W g 25 old) (cs : Array Value) : Keeps B W (W.setRow g cs) := by
  refine ⟨by simp, fun k o _ hk ho => ?_⟩
  by_cases hkg : k = g
  · subst hkg
    unfold Holds_ at h
    rw [h] at hk
    cases hk
    exact absurd rfl (ho _ _)
  · exact (setRow_other W g k cs hkg).trans hk
def encT (x : Wd) : Array Value := #[.agg (wdV x)]
theorem rev_get (L : List Wd) (k : Nat) (p : Nat × Wd) (h : (backL L)[k]? = some p) : L.reverse[k]? = some p.2 := by
  have hk : k < L.length := by have := (List.getElem?_eq_some_iff.1 h).1; rwa [backL_length] at this
  rw [backL_get L k hk] at h
  cases h
  rw [List.getElem?_reverse hk]
  simp [List.getD, show L.length - 1 - k < L.length by omega]

set_option maxRecDepth 100000 in
set_option maxHeartbeats 2000000 in
theorem top_goes (n : Nat) (hn : 3 ≤ n) (v : Value) (L : List Wd) (Bp n0 B : Nat) (w0 w : World) (hn0 : w0.heap.size = n0) (hL : Ws w0 v L) (hlen : L.length ≤ 100000) (hb : Below n0 w0 w) (hBp : Holds_ w Bp 49 #[v]) (hBw : B ≤ w.heap.size) :
    GoesAll Fence.wide n Try.prog 28 #[.pointer (some ⟨Bp, 0, none⟩)] encT L.reverse n0 B w := fun l J W hW hJ hY h0 => by
  refine callsIn_of_wp_marks Try.func28 rfl trivial ?_ rfl
  simp only [Try.ntmps28, List.size_toArray, List.length_cons, List.length_nil, Nat.reduceAdd, Nat.reduceSub, Array.replicate_succ, Array.replicate_zero, List.push_toArray, List.append_toArray, List.nil_append, List.cons_append]
  have hbW : Below n0 w0 W := hb.trans (hW.mono (by rw [← hn0]; exact hb.size))
  have hH := hBp.below hW hBp.lt
  obtain ⟨A, c, rfl, k1, k2, k3⟩ := hL.form
  have q : (W.alloc (.cells #[.func (.yield l) #[] #[]] 53)).cell? ⟨Bp, 0, none⟩ = some (.slice A L.length c) := (hH.alloc _).cell 0
  have q' : W.cell? ⟨Bp, 0, none⟩ = some (.slice A L.length c) := hH.cell 0
  have hba := fun W => back_any _ A L.length c rfl W
  gi_wp2_with fail
  refine ⟨trivial, fun h => (by cases h), (callsIn_wide.2 (hba _)).mono ?_⟩
  rintro e w2 ⟨rfl, rfl⟩
  clear hba q
  obtain ⟨y, hy0⟩ : ∃ y, W.heap.size = y := ⟨_, rfl⟩
  gi_wp2_with fail
  refine wpIn_abs (fun V => (J 0 V ∧ Holds_ V y 53 #[.func (.yield l) #[] #[]]) ∧ Holds_ V (y + 1) 49 #[.slice A L.length c] ∧ Below n0 w0 V ∧ y + 2 ≤ V.heap.size) ?f0 ?g0
  case f0 =>
    subst hy0
    have h1 := Holds_.new W 53 #[.func (.yield l) #[] #[]]
    have h2 := Holds_.new (W.alloc (.cells #[.func (.yield l) #[] #[]] 53)) 49 #[.slice A L.length c]
    rw [World.size_alloc] at h2
    exact ⟨⟨hJ.alloc _ (hJ.alloc _ h0), h1.alloc _⟩, h2, (hbW.alloc (by rw [← hn0]; exact hbW.size) _).alloc (by have := hbW.size; simp; omega) _, by simp⟩
  rintro V ⟨⟨hJ0, hY0⟩, hB0, hbV, hyV⟩
  have hn0V : n0 ≤ V.heap.size := by have := hbV.size; omega
  have hWs := hW.size
  refine wpIn_rangeFunc_all (F := Fence.wide) rfl (by omega) (gf := 30) (lb := #[.pointer (some ⟨y + 1, 0, none⟩)]) rfl trivial (enters_of Try.func30 (by kernel_rfl) rfl) (encs := encB) (backL L) n0 B hn0V (by omega)
    (back_goes (n - 1) (.slice A L.length c) L (y + 1) n0 B w0 V hn0 hL hlen hbV hB0 (by omega)) (fun _ => rfl)
    (fun k X => J k X ∧ Holds_ X y 53 #[.func (.yield l) #[] #[]] ∧ V.heap.size ≤ X.heap.size)
    (fun s A' B' row hs hg hr => ⟨hJ s A' B' row hs.1 hg (fun r e => ⟨by have := (hr r e).1; omega, (hr r e).2⟩), hs.2.1.kept hg (fun r e => (hr r e).2), Nat.le_trans hs.2.2 hg.size⟩)
    ⟨hJ0, hY0, Nat.le_refl _⟩
    (fun p a' X => ∃ Bx, n0 ≤ Bx ∧ Holds_ X Bx 25 (wdV p.2) ∧ a' = { tmps := #[.func (.yield l) #[] #[], .pointer (some ⟨Bp, 0, none⟩), .pointer (some ⟨y, 0, none⟩), undef, .pointer (some ⟨Bx, 0, none⟩), .slice A L.length c, .func (.func 30) #[] #[.pointer (some ⟨y + 1, 0, none⟩)], .int .i64 (p.1 : Nat), .agg (wdV p.2), undef, undef, undef, undef], defers := [] })
    (fun p a' _ A' B' row hs hg hr => by obtain ⟨Bx, h1, h2, h3⟩ := hs; exact ⟨Bx, h1, h2.kept hg (fun r e => (hr r e).2), h3⟩) ?assign ?body ?done
  case assign =>
    rintro l2 k ⟨p, x⟩ X K ⟨hiJ, hiY, hiS⟩ hK
    dsimp only [encB]
    have hs := Holds_.new X 25 (wdV (0, 0, 0, 0))
    have hn0X : n0 ≤ X.heap.size := by omega
    gi_wp2_with (with_reducible show wpListIn _ _ _ _ _ (⟨none, _, _, _, _, _⟩ :: _) _ _; refine wpListIn_storeRow rfl 25 _ _ rfl X.heap.size (wdV x) rfl rfl 25 _ (Holds_.new X 25 _) ?s1 ?s2 (wdV_one x) ?_)
    case s1 => simpa [wdV_size] using info25
    case s2 => rw [wdV_size]
    refine hK _ _ ?_ ?_ ?_ ⟨X.heap.size, hn0X, hs.putRow _, rfl⟩
    · exact (Keeps.alloc _ _ _).trans (Keeps.setRow hs _)
    · exact below_putRow ((Below.refl _ _).alloc hn0X _) hn0X _
    · exact ⟨hJ k _ _ none hiJ ⟨rfl, rfl, rfl, by simp, fun i hi _ => (setRow_other _ _ _ _ (by omega)).trans (heap_alloc_old X _ i hi)⟩ (fun r e => by cases e), (hiY.alloc _).farRow (Nat.ne_of_lt hiY.lt) _, by simp; omega⟩
  case body =>
    rintro l2 k ⟨p, x⟩ a' X hx ⟨hiJ, hiY, hiS⟩ ⟨Bx, hBx, hX, rfl⟩
    obtain ⟨fn, tmps, assign, body, hy, hR⟩ := hY k x X (rev_get L k _ hx) hiJ
    dsimp only [encT] at hy
    have q1 : X.cell? ⟨y, 0, none⟩ = some (.func (.yield l) #[] #[]) := hiY.cell 0
    gi_wp2_with (with_reducible show wpListIn _ _ _ _ _ (⟨some 10, _, _, _, _, _⟩ :: _) _ _; refine wpListIn_loadRow rfl 25 _ rfl Bx rfl 25 _ _ hX Try.underlying25 rfl (by rw [wdV_size]; exact info25) ?_)
    refine ⟨fun h => (by cases h), (round_any rfl _ hR).mono ?_⟩
    rintro e W3 ⟨rfl, hJ3, hb3, hk3⟩
    have hY3 : Holds_ W3 y 53 #[.func (.yield l) #[] #[]] := hk3.same y _ (by omega) hiY (fun _ _ h => by cases h)
    have hS3 := Nat.le_trans hiS hk3.size
    clear hy
    gi_wp2_with fail
    first | exact hJ3 | exact ⟨hk3, hb3, hJ3, hY3, hS3⟩ | exact ⟨hk3, hb3, ⟨hJ3, hY3, hS3⟩⟩ | exact ⟨rfl, hk3, hb3, hJ3, hY3, hS3⟩
  case done =>
    intro D X hD hi hKD
    gi_wp2_with fail
    refine ⟨by simp, .inl ⟨D, _, rfl, run_takeDeferred hKD, _, results_none rfl _ _ _, ⟨_, rfl⟩, ?_⟩⟩
    have hlast : J L.reverse.length X := by
      have := hi.1
      rw [backL_length] at this
      rw [List.length_reverse]
      exact this
    exact hJ.putObj _ hlast (by omega) hKD rfl
end Go.Proofs.Ythfopoeahphnjaa
