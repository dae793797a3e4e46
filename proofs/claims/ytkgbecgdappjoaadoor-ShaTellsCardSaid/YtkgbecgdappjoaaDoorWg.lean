/- Sum, by its walk. -/
import Derived.Test.YtkgbecgdappjoaaDoorWe
import Derived.Test.YtkgbecgdappjoaaDoorWf
namespace Go.Proofs.YtkgbecgdappjoaaDoor
open Go.RowKit Go.Shelf
set_option linter.unusedVariables false
set_option linter.unusedSimpArgs false
attribute [local go_sem] Oper.semAt_some

theorem wpListIn_loadCells {F : Fence} {n : Nat} {P : Program} {ops : Array Oper} {rest : List Oper} {o : Oper} {a : Act} {w : World} {Q : Exit → Act → World → Prop} (hgd : o.guard = none) (ty : TypeId) (x : Operand) (ho : o.op = .load ty x)
    (g : Nat) (hx : a.eval x = .pointer (some ⟨g, 0, none⟩)) (cs : Array Value) (d : TypeDesc) (hg : Reads_ w g cs)
    (hu : P.underlying ty = some d) (hd : (match d with | .struct _ | .array _ _ => true | _ => false) = true) (hi : (P.info? ty).map (·.size) = some cs.size)
    (h : wpListIn F n P ops Q rest (a.put o.dst (.agg cs)) w) : wpListIn F n P ops Q (o :: rest) a w := by
  refine wpListIn_plain hgd fun K hK => ?_
  unfold Oper.wpIn
  refine ⟨?_, ?_⟩
  · simp [Oper.about, ho]
  · rw [Oper.semAt_plain F _ _ (by rw [ho]; intro c hc'; cases hc')]
    simp [execOp, ho, hx, Instr.loadAt, Instr.sureAddr, run_loadVar_cells w g ty cs d hg hu hd hi, Result.andThen]
    exact hK _ _ h
theorem wpListIn_append_Sl {F : Fence} {n' : Nat} {P : Program} {w : World} {ops : Array Oper} {rest : List Oper} {o : Oper} {a : Act} {Q : Exit → Act → World → Prop} (hgd : o.guard = none) (s x : Operand) (t : TypeId)
    (ho : o.op = .call { callee := .builtin .append, args := #[s, x], argTypes := #[t, t] })
    (base : Nat) (e : TypeId) (i : TypeInfo) (z : Value) (size bytes : Nat) (ht : P.underlying t = some (.slice e)) (hi : P.info? e = some i) (hz : i.zero = some z)
    (hsize : i.size = size) (hby : i.bytes = bytes) (hzs : z.cells.size = size) (hsz : 0 < size)
    (v : Value) (n : Nat) (xs : List Value) (hs : a.eval s = v) (hown : Sl w base e size v n xs)
    (ad : Addr) (m c : Nat) (news : List Value) (hx : a.eval x = .slice (some ad) m c) (hl : news.length = m * size) (hnews : ∀ j u, news[j]? = some u → w.cell? (ad.add j) = some u) (h1 : ∀ u ∈ news, u.oneCell' = true)
    (h63 : n + m ≤ maxLen) (hbytes : (n + m) * bytes ≤ 140737488355328) (hbase : base ≤ w.heap.size)
    (h : ∀ v' w', Sl w' base e size v' (n + m) (xs ++ news) → w.grownBy w' v.ownBlock → (v'.ownBlock = v.ownBlock ∨ v'.ownBlock = some w.heap.size) → wpListIn F n' P ops Q rest (a.put o.dst v') w') : wpListIn F n' P ops Q (o :: rest) a w := by
  obtain ⟨v', w', hrun, h2, h3, h4⟩ := run_append_Sl (P := P) w base t o.type e i z size bytes ht hi hz hsize hby hzs hsz v n xs hown ad m c news hl hnews h1 h63 hbytes hbase
  refine wpListIn_plain hgd fun K hK => ?_
  unfold Oper.wpIn
  refine ⟨?_, ?_⟩
  · simp [Oper.about, ho, resolve, Target.leads]
  · rw [Oper.semAt_plain F _ _ (by rw [ho]; intro c hc'; cases hc')]
    simp only [execOp, ho, resolve, invoke, builtin, Sem.run_bind, Sem.run_pure, Result.andThen_ok, List.map_toArray, List.map_cons, List.map_nil, hs, hx, hrun]
    exact hK _ _ (h v' w' h2 h3 h4)

theorem sum_long (s : ByteArray) (hs : 1048576 < s.size) (hs2 : s.size ≤ 9223372036854775807) (w : World) :
    Calls Tryd.prog 10 #[.string s] w fun e W' => e = .returned (.tuple #[.string ⟨#[]⟩, .int .i64 2]) ∧ w = W' := by
  have h1 : (1048576 : Int) < (s.size : Int) := by omega
  go_enter Tryd.func10, Tryd.ntmps10
  go_wp2
  go_ret2
  exact ⟨rfl, rfl⟩

namespace Sha
theorem vals_finRange (q : Nat) : (List.finRange q).map (·.1) = List.range q := by
  apply List.ext_getElem?
  intro i
  by_cases hi : i < q <;> simp [hi]
end Sha

set_option maxRecDepth 100000 in
set_option maxHeartbeats 4000000 in
theorem sum_any (s : ByteArray) (hs : s.size ≤ 1048576) (w : World) (hT : Table w) :
    Calls Tryd.prog 10 #[.string s] w fun e W' => e = .returned (.tuple #[.string ⟨(Sha.sumL s.data.toList).toArray⟩, .int .i64 0]) ∧ Below w.heap.size w W' := by
  have h1 : ¬ (1048576 : Int) < (s.size : Int) := by omega
  have hT0 := hT.pos
  obtain ⟨f0, hf0⟩ : ∃ f0, Hid (f0 = Sha.hF) := ⟨_, Lib.hid rfl⟩
  have hR0 : Reads_ w 0 (octV f0) := by rw [hf0.out]; exact hT.1
  refine (callsIn_wide (n := 3)).1 ?_
  refine callsIn_of_wp_marks Tryd.func10 rfl trivial ?_ rfl
  simp only [Tryd.ntmps10, List.size_toArray, List.length_cons, List.length_nil, Nat.reduceAdd, Nat.reduceSub, Array.replicate_succ, Array.replicate_zero, List.push_toArray, List.append_toArray, List.nil_append, List.cons_append]
  gi_wp2_with (first
    | (with_reducible show wpListIn _ _ _ _ _ (⟨some 12, _, _, _, _, _⟩ :: _) _ _; refine wpListIn_loadCells rfl 45 _ rfl 0 rfl (octV f0) _ ?ld Tryd.underlying45 rfl (by rw [row_size]; exact info45) ?_)
    | (with_reducible show wpListIn _ _ _ _ _ (⟨none, _, _, _, _, _⟩ :: _) _ _; refine wpListIn_storeRow rfl 45 _ _ rfl w.heap.size _ rfl rfl 45 _ (Holds_.new w 45 _) (by rw [row_size]; exact info45) (by simp [row_size]) (row_one _ _ _) ?_))
  refine ⟨trivial, ?_⟩
  have hA0 : Holds_ ((w.alloc (.cells #[.int .u32 0, .int .u32 0, .int .u32 0, .int .u32 0, .int .u32 0, .int .u32 0, .int .u32 0, .int .u32 0] 45)).setRow w.heap.size (octV f0)) w.heap.size 45 (octV f0) := (Holds_.new w 45 _).putRow _
  have hB0 : Below w.heap.size w ((w.alloc (.cells #[.int .u32 0, .int .u32 0, .int .u32 0, .int .u32 0, .int .u32 0, .int .u32 0, .int .u32 0, .int .u32 0] 45)).setRow w.heap.size (octV f0)) := below_putRow ((Below.refl _ _).alloc (Nat.le_refl _) _) (Nat.le_refl _) _
  generalize World.setRow _ _ _ = WA at *
  refine (callsIn_wide.2 (padded_any s hs WA)).mono ?_
  rintro e w1 ⟨v, rfl, hS, hb1⟩
  have hA1 := hA0.below hb1 hA0.lt
  have hB1 : Below w.heap.size w w1 := hB0.trans (hb1.mono hB0.size)
  have hlw := hA0.lt
  clear hb1 hA0 hB0
  have hpl := Sha.padL_length s.data.toList
  have hlen : s.data.toList.length = s.size := by simp
  rw [hlen] at hpl
  obtain ⟨q, hq⟩ : ∃ q, (Sha.padL s.data.toList).length = 64 * q := ⟨_, hpl⟩
  have hq1 : 1 ≤ q := by omega
  have hq2 : q ≤ 20000 := by omega
  have hdiv : (Sha.padL s.data.toList).length / 64 = q := by omega
  have hsum : Sha.sumL s.data.toList = Sha.outTo (Sha.mixL (Sha.padL s.data.toList) (List.range q)) 8 := by unfold Sha.sumL; rw [hdiv]
  have HS := Lib.hid hsum
  clear hsum hdiv hpl hlen
  generalize Sha.padL s.data.toList = pl at *
  rw [hq] at hS
  obtain ⟨m, hm⟩ : ∃ m, 64 * q = m := ⟨_, rfl⟩
  rw [hm] at hS
  obtain ⟨gp, cap, rfl, hg1, hg2, hg3, hg4⟩ := hS.form (by omega)
  have Hm := Lib.hid hm
  clear hm
  gi_wp2_with fail
  refine ⟨trivial, ?_⟩
  refine (callsIn_wide.2 (chunk_any _ _ _ _ rfl _)).mono ?_
  rintro e w3 ⟨rfl, rfl⟩
  gi_wp2_with fail
  refine wpIn_abs (fun W => (Holds_ W w.heap.size 45 (octV f0) ∧ Sl W WA.heap.size 5 1 (.slice (some ⟨gp, 0, none⟩) m cap) m (bytesV pl)) ∧ (Holds_ W w1.heap.size 26 #[.slice (some ⟨gp, 0, none⟩) m cap] ∧ Holds_ W (w1.heap.size + 1) 3 #[.int .i64 64]) ∧ Below w.heap.size w W) ?f0 ?g0
  case f0 =>
    have h3 := Holds_.new w1 26 #[.slice (some ⟨gp, 0, none⟩) m cap]
    have h4 := Holds_.new (w1.alloc (.cells #[.slice (some ⟨gp, 0, none⟩) m cap] 26)) 3 #[.int .i64 64]
    simp only [World.size_alloc] at h3 h4
    have hsz := hB1.size
    exact ⟨⟨(hA1.alloc _).alloc _, (hS.alloc _).alloc _⟩, ⟨h3.alloc _, h4⟩, (hB1.alloc hsz _).alloc (by simp; omega) _⟩
  rintro W3 ⟨⟨hA, hS⟩, ⟨hBs, hBn⟩, hB⟩
  have hl3 := hBn.lt
  have hlw1 : w.heap.size < w1.heap.size := hA1.lt
  clear hA1 hB1
  generalize hNs : w1.heap.size = Ns at *
  generalize hNa : WA.heap.size = Na at *
  clear hNs hNa
  have hm2 : m ≤ 2000000 := by rw [← Hm.out]; omega
  refine' wpIn_rangeFunc_ownG rfl (by omega) (gf := 23) rfl trivial (enters_of Tryd.func23 (by kernel_rfl) rfl)
    (chunk1_stops 2 q gp cap Ns (Ns + 1) (by rw [Hm.out]; exact hg3) (by omega) W3 (by rw [Hm.out]; exact hBs) hBn) keepC_t (keepC_b hBs.lt hBn.lt) (Below.refl _ _) (fun _ => rfl)
    (fun pre W => (Holds_ W w.heap.size 45 (octV (Sha.mixL pl (pre.map (·.1)))) ∧ Sl W Na 5 1 (.slice (some ⟨gp, 0, none⟩) m cap) m (bytesV pl)) ∧ Below w.heap.size w W ∧ W3.heap.size ≤ W.heap.size)
    (fun _ _ _ => False)
    (OwnFrom.and (OwnFrom.and (Own.from (Holds_.own _ _ _) _) (Own.from (Sl.own (fun _ => (m, bytesV pl)) _ _ _ _) _)) (OwnFrom.and (ownFrom_below (Nat.le_refl _) hB.size) (ownFrom_size _ _)))
    (fun _ _ _ _ _ hs _ _ => hs)
    ⟨⟨by rw [show Sha.mixL pl (([] : List (Fin q)).map (·.1)) = f0 from hf0.out.symm]; exact hA, hS⟩, hB, Nat.le_refl _⟩ _ ?assign ?body ?done ?stop
  case assign =>
    intro l x W K hK
    gi_wp2
    exact hK
  case body =>
    rintro l pre ⟨c, hc⟩ W ⟨⟨hA, hS⟩, hB, hsW⟩ _
    dsimp only
    have hsn : Sha.mixL pl ((pre ++ [(⟨c, hc⟩ : Fin q)]).map (·.1)) = Sha.mix (Sha.mixL pl (pre.map (·.1))) ((pl.drop (64 * c)).take 64) := by rw [List.map_append]; exact Sha.mixL_snoc _ _ _
    have ha := Sha.mixL_ok pl (pre.map (·.1))
    have HN := Lib.hid hsn
    clear hsn
    generalize Sha.mixL pl (pre.map (·.1)) = a at *
    obtain ⟨o0, ho0⟩ : ∃ o0, 64 * c = o0 := ⟨_, rfl⟩
    have ho2 : o0 + 64 ≤ m := by rw [← Hm.out]; omega
    rw [ho0] at HN ⊢
    clear ho0
    have hpm : pl.length = m := hq.trans Hm.out
    have hbl : ((pl.drop o0).take 64).length = 64 := by rw [List.length_take, List.length_drop, hpm]; omega
    have hcl : ∀ i, i < 64 → W.cell? ⟨gp, o0 + i, none⟩ = some (.int .u8 ((((pl.drop o0).take 64).getD i 0).toNat : Int)) := by
      intro i hi
      rw [hS.cell _ (by omega), bytesV_get _ _ (by omega)]
      have e1 : ((pl.drop o0).take 64)[i]'(by rw [hbl]; exact hi) = pl[o0 + i]'(by omega) := by
        rw [List.getElem_take, List.getElem_drop]
      rw [← e1]
      simp [List.getD, hbl, hi]
    have hgW : gp < W.heap.size := (hS.lt gp rfl).2
    have hT5 := hT.below hB hT0
    have Hmix := mix_any a ha ((pl.drop o0).take 64) hbl gp o0 64 (Nat.le_refl _) W hgW hT5 hcl
    generalize (pl.drop o0).take 64 = b at *
    gi_wp2_with (with_reducible show wpListIn _ _ _ _ _ (⟨some 17, _, _, _, _, _⟩ :: _) _ _; refine wpListIn_loadRow rfl 45 _ rfl w.heap.size rfl 45 _ _ hA Tryd.underlying45 rfl (by rw [row_size]; exact info45) ?_)
    refine ⟨trivial, ?_⟩
    refine (CallsIn.inRound l (callsIn_wide.2 Hmix)).mono ?_
    rintro e w5 ⟨rfl, hb5⟩
    have hA5 : Holds_ w5 w.heap.size 45 (octV a) := hA.below hb5 hA.lt
    gi_wp2_with (with_reducible show wpListIn _ _ _ _ _ (⟨none, _, _, _, _, _⟩ :: _) _ _; refine wpListIn_storeRow rfl 45 _ _ rfl w.heap.size _ rfl rfl 45 _ hA5 (by rw [row_size]; exact info45) (by simp [row_size]) (row_one _ _ _) ?_)
    refine ⟨?_, ⟨?_, ?_⟩, ⟨?_, ?_⟩, ?_, ?_⟩
    · exact ((KeepsOthers_below hb5).trans (KeepsOthers_putRow hA5 _)).from _
    · exact (setRow_other _ _ _ _ (by omega)).trans (hb5.block _ (by omega))
    · exact (setRow_other _ _ _ _ (by omega)).trans (hb5.block _ (by omega))
    · rw [HN.out]
      exact hA5.putRow _
    · exact (hS.later hb5).farRow (by simp [Value.ownBlock]; omega) _
    · exact below_putRow (hB.trans (hb5.mono hB.size)) (Nat.le_refl _) _
    · have := hb5.size; simp; omega
  case done =>
    rintro D xs W hD rfl ⟨⟨hA, hS⟩, hB, hsW⟩ hK
    rw [Sha.vals_finRange] at hA
    have ha := Sha.mixL_ok pl (List.range q)
    generalize Sha.mixL pl (List.range q) = a at *
    obtain ⟨i5, hi5, hz0, hz1, hz2⟩ := info_parts info5
    gi_wp2_with (with_reducible show wpListIn _ _ _ _ _ (⟨some 20, _, _, _, _, _⟩ :: _) _ _; refine wpListIn_loadRow rfl 45 _ rfl w.heap.size rfl 45 _ _ hA Tryd.underlying45 rfl (by rw [row_size]; exact info45) ?_)
    have hDlt := lt_of_heap hK
    have hDw := hB.size
    clear hA hS
    gi_loopw [6, 21] (fun v t wr => ∃ k : Nat, k ≤ 8 ∧ t = .int .i64 k ∧ Sl wr W.heap.size 5 1 v (4 * k) (bytesV (Sha.outTo a k)) ∧ Below w.heap.size w wr ∧ wr.heap[D]? = some (.deferred (some [])) ∧ W.heap.size ≤ wr.heap.size)
      (fun _ t _ => 8 - (intOf t).toNat)
    case atStart => exact ⟨0, by omega, rfl, Sl.nil_ _ _ _ _, hB, hK, Nat.le_refl _⟩
    case round =>
      obtain ⟨k, hk, rfl, hO, hB, hK, hsz⟩ := hrel
      by_cases hlt : k < 8
      · have hidx := fun W => run_index_row (P := Tryd.prog) 45 44 8 .u32 .i64 (fun i => ((a i : Nat) : Int)) k Tryd.underlying45 Tryd.underlying44 info44 hlt W
        have hak := ha k hlt
        have hHl := Sha.high_length (a k) 4
        have hsucc := Sha.outTo_succ a k
        have Hh := fun w => high_any (a k) 4 w (by omega) (by omega)
        have hob := bytes_one (Sha.high (a k) 4)
        have HS2 := Lib.hid hsucc
        have hlt8 : (k : Int) < 8 := by omega
        have hwr : IntKind.u64.wrap ((a k : Nat) : Int) = ((a k : Nat) : Int) := by rw [IntKind.wrap_u64]; omega
        clear hsucc
        generalize Sha.high (a k) 4 = hb at *
        generalize a k = x at *
        gi_wp2_with fail
        refine ⟨trivial, ?_⟩
        refine (callsIn_wide.2 (Hh _)).mono ?_
        rintro e w2 ⟨v, rfl, hV, hb2⟩
        obtain ⟨g2, cap2, rfl, hq1, hq2, hq3, hq4⟩ := hV.form (by omega)
        have hO2 := hO.later hb2
        have hB2 := hB.trans (hb2.mono hB.size)
        have hK2 : w2.heap[D]? = some (.deferred (some [])) := (hb2.block D (lt_of_heap hK)).trans hK
        have hsz2 := Nat.le_trans hsz hb2.size
        clear Hh hO hB hK hb2
        gi_wp2_with (gi_at_builtin; refine wpListIn_append_Sl rfl _ _ 26 rfl W.heap.size 5 i5 (.int .u8 0) 1 1 Tryd.underlying26 hi5 hz0 hz1 hz2 rfl (by decide) _ _ _ rfl hO2 ⟨g2, 0, none⟩ 4 cap2 (bytesV hb) rfl ?e0 ?e1 ?e2 ?e3 ?e4 ?e5 ?_)
        case e0 => rw [bytesV_length, hHl]
        case e1 => exact list_at hV
        case e2 => exact hob
        case e3 => unfold maxLen; omega
        case e4 => omega
        case e5 => exact hsz2
        intro v3 w3 hS3 hg3 _
        have hB3 : Below w.heap.size w w3 := hB2.grown (w' := w3) hg3 hB2.size (fun k e => Nat.le_trans hDw (hO2.lt k e).1)
        have hK3 : w3.heap[D]? = some (.deferred (some [])) := (hg3.block D (lt_of_heap hK2) (fun e => by have := (hO2.lt D e.symm).1; omega)).trans hK2
        have hsz3 := Nat.le_trans hsz2 hg3.size
        gi_wp2_with fail
        go_roundw
        case rel => exact ⟨k + 1, by omega, by go_num, by rw [HS2.out, bytesV_append, show 4 * (k + 1) = 4 * k + 4 from by omega]; exact hS3, hB3, hK3, hsz3⟩
        case measure => simp [intOf]; omega
      · obtain rfl : k = 8 := by omega
        have hback := run_string_of_Sl (P := Tryd.prog) 26 9 5 Tryd.underlying26 Tryd.underlying5 Tryd.underlying9 hO
        gi_wp2_with fail
        rw [HS.out]
        refine ⟨by simp, .inl ⟨D, _, rfl, run_takeDeferred hK, _, results_tmp2 rfl _ _ _, rfl, ?_⟩⟩
        exact hB.grown (grownBy_putObj' _ D _) hB.size (fun k e => by cases e; omega)
  case stop =>
    rintro D c pre W _ _ h _
    exact h.elim
end Go.Proofs.YtkgbecgdappjoaaDoor
