/- Sum, by its walk. -/
import Derived.Test.YtblfodhbimgonaaDoorWf
import Derived.Test.YtblfodhbimgonaaDoorWi
import Derived.Test.YtblfodhbimgonaaDoorKecC
namespace Go.Proofs.YtblfodhbimgonaaDoor
open Go.RowKit Go.Shelf
set_option linter.unusedVariables false
set_option linter.unusedSimpArgs false
attribute [local go_sem] Oper.semAt_some

theorem sum_long (s : ByteArray) (hs : 1048576 < s.size) (hs2 : s.size ≤ 9223372036854775807) (w : World) :
    Calls Tryd.prog 14 #[.string s] w fun e W' => e = .returned (.tuple #[.string ⟨#[]⟩, .int .i64 2]) ∧ w = W' := by
  have h1 : (1048576 : Int) < (s.size : Int) := by omega
  go_enter Tryd.func14, Tryd.ntmps14
  go_wp2
  go_ret2
  exact ⟨rfl, rfl⟩

set_option maxRecDepth 100000 in
set_option maxHeartbeats 4000000 in
theorem sum_any (s : ByteArray) (hs : s.size ≤ 1048576) (w : World) (hT : Table w) :
    Calls Tryd.prog 14 #[.string s] w fun e W' => e = .returned (.tuple #[.string ⟨(Kec.sumL s.data.toList).toArray⟩, .int .i64 0]) ∧ Below w.heap.size w W' := by
  have h1 : ¬ (1048576 : Int) < (s.size : Int) := by omega
  have hT0 := hT.pos
  refine (callsIn_wide (n := 3)).1 ?_
  refine callsIn_of_wp_marks Tryd.func14 rfl trivial ?_ rfl
  simp only [Tryd.ntmps14, List.size_toArray, List.length_cons, List.length_nil, Nat.reduceAdd, Nat.reduceSub, Array.replicate_succ, Array.replicate_zero, List.push_toArray, List.append_toArray, List.nil_append, List.cons_append]
  gi_wp2_with fail
  refine ⟨trivial, ?_⟩
  have hA0 := Holds_.new w 24 (lanesV Kec.zero)
  refine (callsIn_wide.2 (pad_any s hs _)).mono ?_
  rintro e w1 ⟨rfl, hb1⟩
  have hA1 : Holds_ w1 w.heap.size 24 (lanesV Kec.zero) := hA0.below hb1 hA0.lt
  have hB1 : Below w.heap.size w w1 := ((Below.refl _ _).alloc (Nat.le_refl _) _).trans (hb1.mono (by simp))
  clear hb1 hA0
  have hpl := Kec.padL_length s.data.toList
  have hlen : s.data.toList.length = s.size := by simp
  have hpn := Kec.padN_lt s.size
  have hfull := Kec.padN_full s.size
  rw [hlen] at hpl
  obtain ⟨q, hq⟩ : ∃ q, (Kec.padL s.data.toList).length = 136 * q := ⟨(Kec.padL s.data.toList).length / 136, by omega⟩
  have hq2 : q ≤ 8000 := by omega
  have hdiv : (Kec.padL s.data.toList).length / 136 = q := by omega
  have hsum : Kec.sumL s.data.toList = Kec.outL (Kec.absL (Kec.padL s.data.toList) (List.range q)) := by unfold Kec.sumL; rw [hdiv]
  have HS := Lib.hid hsum
  clear hsum hdiv hpl hlen hpn hfull
  generalize Kec.padL s.data.toList = pl at *
  have hps : (⟨pl.toArray⟩ : ByteArray).size = 136 * q := by rw [← hq]; rfl
  have hconv := run_bytes_of_string (P := Tryd.prog) w1 9 27 5 ⟨pl.toArray⟩ Tryd.underlying9 Tryd.underlying27 Tryd.underlying5
  have hS := Sl.of_string w1 5 ⟨pl.toArray⟩ (by omega)
  rw [hps] at hconv hS
  have hpd : (⟨pl.toArray⟩ : ByteArray).data.toList = pl := by simp
  rw [hpd] at hS
  have hcap := grownCap_ge w1 (136 * q) 0 5
  generalize grownCap w1 (136 * q) 0 5 = cap at *
  generalize bytesRow ⟨pl.toArray⟩ cap = C at *
  have hB2 : Below w.heap.size w (w1.drew.alloc (.cells C 5 (C.size, C.size + 1))) := hB1.drew.alloc hB1.size _
  have hA2 : Holds_ (w1.drew.alloc (.cells C 5 (C.size, C.size + 1))) w.heap.size 24 (lanesV Kec.zero) := hA1.drew.alloc _
  obtain ⟨m, hm⟩ : ∃ m, 136 * q = m := ⟨_, rfl⟩
  rw [hm] at hconv hS hcap
  have Hm := Lib.hid hm
  clear hm hps hpd
  gi_wp2_with fail
  refine ⟨trivial, ?_⟩
  refine (callsIn_wide.2 (chunk_any _ _ _ _ rfl _)).mono ?_
  rintro e w3 ⟨rfl, rfl⟩
  gi_wp2_with fail
  refine wpIn_abs (fun W => (Holds_ W w.heap.size 24 (lanesV Kec.zero) ∧ Sl W w1.heap.size 5 1 (.slice (some ⟨w1.heap.size, 0, none⟩) m cap) m (bytesV pl)) ∧ (Holds_ W (w1.heap.size + 1) 27 #[.slice (some ⟨w1.heap.size, 0, none⟩) m cap] ∧ Holds_ W (w1.heap.size + 1 + 1) 3 #[.int .i64 136]) ∧ Below w.heap.size w W) ?f0 ?g0
  case f0 =>
    have h3 := Holds_.new (w1.drew.alloc (.cells C 5 (C.size, C.size + 1))) 27 #[.slice (some ⟨w1.heap.size, 0, none⟩) m cap]
    have h4 := Holds_.new ((w1.drew.alloc (.cells C 5 (C.size, C.size + 1))).alloc (.cells #[.slice (some ⟨w1.heap.size, 0, none⟩) m cap] 27)) 3 #[.int .i64 136]
    simp only [World.size_alloc] at h3 h4
    have hsz := hB2.size
    exact ⟨⟨(hA2.alloc _).alloc _, (hS.alloc _).alloc _⟩, ⟨h3.alloc _, h4⟩, (hB2.alloc hsz _).alloc (by simp; simp at hsz; omega) _⟩
  rintro W3 ⟨⟨hA, hS⟩, ⟨hBs, hBn⟩, hB⟩
  have hlw1 : w.heap.size < w1.heap.size := hA1.lt
  have hl3 := hBn.lt
  clear hconv hB2 hA2 hA1 hB1
  have hm2 : m ≤ 2000000 := by rw [← Hm.out]; omega
  refine' wpIn_rangeFunc_ownG rfl (by omega) (gf := 34) rfl trivial (enters_of Tryd.func34 (by kernel_rfl) rfl)
    (chunk1_stops 2 q w1.heap.size cap (w1.heap.size + 1) (w1.heap.size + 1 + 1) (by rw [Hm.out]; exact hcap) (by omega) W3 (by rw [Hm.out]; exact hBs) hBn) keepC_t (keepC_b hBs.lt hBn.lt) (Below.refl _ _) (fun _ => rfl)
    (fun pre W => (Holds_ W w.heap.size 24 (lanesV (Kec.absL pl (pre.map (·.1)))) ∧ Sl W w1.heap.size 5 1 (.slice (some ⟨w1.heap.size, 0, none⟩) m cap) m (bytesV pl)) ∧ Below w.heap.size w W ∧ W3.heap.size ≤ W.heap.size)
    (fun _ _ _ => False)
    (OwnFrom.and (OwnFrom.and (Own.from (Holds_.own _ _ _) _) (Own.from (Sl.own (fun _ => (m, bytesV pl)) _ _ _ _) _)) (OwnFrom.and (ownFrom_below (Nat.le_refl _) hB.size) (ownFrom_size _ _)))
    (fun _ _ _ _ _ hs _ _ => hs)
    ⟨⟨hA, hS⟩, hB, Nat.le_refl _⟩ _ ?assign ?body ?done ?stop
  case assign =>
    intro l x W K hK
    gi_wp2
    exact hK
  case body =>
    rintro l pre ⟨c, hc⟩ W ⟨⟨hA, hS⟩, hB, hsW⟩ _
    dsimp only
    have hsn : Kec.absL pl ((pre ++ [(⟨c, hc⟩ : Fin q)]).map (·.1)) = Kec.absB pl (Kec.absL pl (pre.map (·.1))) c := by rw [List.map_append]; exact Kec.absL_snoc _ _ _
    have ha := Kec.absL_ok pl (pre.map (·.1))
    have HN := Lib.hid hsn
    clear hsn
    generalize Kec.absL pl (pre.map (·.1)) = a at *
    obtain ⟨o0, ho0⟩ : ∃ o0, 136 * c = o0 := ⟨_, rfl⟩
    have ho2 : o0 + 136 ≤ m := by rw [← Hm.out]; omega
    rw [ho0]
    have HO := Lib.hid ho0
    clear ho0
    gi_wp2
    gi_loopw [17] (fun t wr => ∃ k : Nat, k ≤ 17 ∧ t = .int .i64 k ∧ Holds_ wr w.heap.size 24 (lanesV (Kec.absTo a pl c k)) ∧ Sl wr w1.heap.size 5 1 (.slice (some ⟨w1.heap.size, 0, none⟩) m cap) m (bytesV pl) ∧ Below w.heap.size w wr ∧ KeepsFrom W3.heap.size W wr ∧ KeepC (w1.heap.size + 1) (w1.heap.size + 1 + 1) W wr)
      (fun t _ => 17 - (intOf t).toNat)
    case atStart => exact ⟨0, by omega, rfl, hA, hS, hB, KeepsFrom.refl _ _, rfl, rfl⟩
    case round =>
      obtain ⟨k, hk, rfl, hA, hS, hB, hKF, hKC⟩ := hrel
      by_cases hlt : k < 17
      · have hx := Kec.absTo_ok a pl c k ha k (by omega)
        have hw := Kec.word_lt pl c k
        have hup : Kec.absTo a pl c (k + 1) = Kec.upd (Kec.absTo a pl c k) k (Kec.absTo a pl c k k ^^^ Kec.lowN ((pl.drop (136 * c + 8 * k)).take 8)) := rfl
        unfold Kec.word at hw
        rw [HO.out] at hup hw
        obtain ⟨o, ho⟩ : ∃ o, 8 * k = o := ⟨_, rfl⟩
        obtain ⟨o8, ho8⟩ : ∃ o8, o + 8 = o8 := ⟨_, rfl⟩
        rw [ho] at hup hw
        have hl8 : ((pl.drop (o0 + o)).take 8).length = 8 := by rw [List.length_take, List.length_drop, hq, Hm.out]; omega
        have hcl : ∀ i, i < 8 → wr.cell? ⟨w1.heap.size, o0 + o + i, none⟩ = some (.int .u8 ((((pl.drop (o0 + o)).take 8).getD i 0).toNat : Int)) := by
          intro i hi
          rw [hS.cell _ (by omega), bytesV_get _ _ (by rw [hq, Hm.out]; omega)]
          have e1 : ((pl.drop (o0 + o)).take 8)[i]'(by rw [hl8]; exact hi) = pl[o0 + o + i]'(by rw [hq, Hm.out]; omega) := by
            rw [List.getElem_take, List.getElem_drop]
          rw [← e1]
          simp [List.getD, hl8, hi]
        have Hl := fun cap => low_any w1.heap.size (o0 + o) cap _ hl8 wr.drew hcl
        have HU := Lib.hid hup
        clear hup hcl hl8
        generalize Kec.lowN ((pl.drop (o0 + o)).take 8) = v at *
        have hk17 : (k : Int) < 17 := by omega
        have hk25 : (k : Int) < 25 := by omega
        have hc1 : wr.cell? ⟨w.heap.size, k, none⟩ = some (.int .u64 (Kec.absTo a pl c k k : Nat)) := (hA.cell _).trans (row_get _ _ _ _ (by omega))
        have hf1 : wr.frozen? ⟨w.heap.size, k, none⟩ = false := hA.free _
        have e1 : IntKind.i64.wrap (8 * (k : Int)) = (o : Int) := (IntWalk.i64_in _ (by omega)).trans (by omega)
        have e2 : IntKind.i64.wrap ((k : Int) + 1) = (k : Int) + 1 := IntWalk.i64_in _ (by omega)
        have e3 : IntKind.i64.wrap (8 * ((k : Int) + 1)) = (o8 : Int) := (IntWalk.i64_in _ (by omega)).trans (by omega)
        have e4 : o8 - o = 8 := by omega
        have e5 : ¬ 136 = o := by omega
        have e6 : o ≤ o8 := by omega
        have e7 : o8 ≤ 136 := by omega
        have e8 : (o8 : Int) ≤ 136 := by omega
        clear ho ho8
        gi_wp2
        refine wpIn_region_still_tail ?hq2 12 (by kernel_rfl) (by kernel_rfl) ?_
        case hq2 =>
          rintro ⟨_, _, h⟩
          exact h
        simp only [List.take_succ_cons, List.take_zero, List.drop_succ_cons, List.drop_zero]
        repeat still_step
        still_call (same_of (Hl _))
        repeat still_step
        refine wpStill_nil ?_
        clear e1 e2 e3 e4
        go_wp2
        rw [u64_xor_nat _ _ hx hw]
        gi_wp2
        refine ⟨⟨k + 1, by omega, by go_num, ?_, ?_, ?_, ?_, ?_⟩, by simp [intOf]; omega⟩
        · rw [HU.out]
          exact (hA.putN k _ (by omega)).drew
        · exact (hS.far (p := ⟨w.heap.size, k, none⟩) (by simp [Value.ownBlock]; omega) _).drew
        · exact (hB.setCell (p := ⟨w.heap.size, k, none⟩) (Nat.le_refl _) _).drew
        · exact hKF.trans (((KeepsOthers.setCell _ _ _).trans (KeepsOthers.drew _)).from _)
        · exact ⟨(heap_setCell_other _ _ _ _ (by simp; omega)).trans hKC.1, (heap_setCell_other _ _ _ _ (by simp; omega)).trans hKC.2⟩
      · obtain rfl : k = 17 := by omega
        have hok := Kec.absTo_ok a pl c 17 ha
        have hT5 : Table wr := hT.below hB hT0
        have hab : Kec.absB pl a c = Kec.perm (Kec.absTo a pl c 17) := rfl
        have HB := Lib.hid hab
        clear hab
        gi_wp2_with (with_reducible show wpListIn _ _ _ _ _ (⟨some 34, _, _, _, _, _⟩ :: _) _ _; refine wpListIn_loadRow rfl 24 _ rfl w.heap.size rfl 24 _ _ hA Tryd.underlying24 rfl (by rw [row_size]; exact info24) ?_)
        refine ⟨trivial, ?_⟩
        refine (CallsIn.inRound l (callsIn_wide.2 (permute_any _ hok _ hT5))).mono ?_
        rintro e w5 ⟨rfl, hb5⟩
        have hA5 : Holds_ w5 w.heap.size 24 (lanesV (Kec.absTo a pl c 17)) := hA.below hb5 hA.lt
        gi_wp2_with (with_reducible show wpListIn _ _ _ _ _ (⟨none, _, _, _, _, _⟩ :: _) _ _; refine wpListIn_storeRow rfl 24 _ _ rfl w.heap.size _ rfl rfl 24 _ hA5 (by rw [row_size]; exact info24) (by simp [row_size]) (row_one _ _ _) ?_)
        have hsW5 := Nat.le_trans hsW hKF.size
        refine ⟨?_, ⟨?_, ?_⟩, ⟨?_, ?_⟩, ?_, ?_⟩
        · exact hKF.trans (((KeepsOthers_below hb5).trans (KeepsOthers_putRow hA5 _)).from _)
        · exact (setRow_other _ _ _ _ (by omega)).trans ((hb5.block _ (by omega)).trans hKC.1)
        · exact (setRow_other _ _ _ _ (by omega)).trans ((hb5.block _ (by omega)).trans hKC.2)
        · rw [HN.out, HB.out]
          exact hA5.putRow _
        · exact (hS.later hb5).farRow (by simp [Value.ownBlock]; omega) _
        · exact below_putRow (hB.trans (hb5.mono hB.size)) (Nat.le_refl _) _
        · have := hb5.size; simp; omega
  case done =>
    rintro D xs W hD rfl ⟨⟨hA, hS⟩, hB, hsW⟩ hK
    rw [Kec.vals_finRange] at hA
    have ha := Kec.absL_ok pl (List.range q)
    generalize Kec.absL pl (List.range q) = a at *
    obtain ⟨i5, hi5, hz0, hz1, hz2⟩ := info_parts info5
    have hmk : ∀ V : World, (Instr.makeSlice 27 (.int .i64 32) (.int .i64 32)).run Tryd.prog V = .ok (.slice (some ⟨V.heap.size, 0, none⟩) 32 32) (V.alloc (.cells (bytesV (Kec.outTo a 0)).toArray 5)) := by
      intro V
      have h := run_make (P := Tryd.prog) V 27 5 i5 _ Tryd.underlying27 hi5 hz0 .i64 .i64 32 32 (by omega) (by omega) (by rw [hz2]; omega) (by omega)
      rw [hz1] at h
      have e0 : Kec.outTo a 0 = List.replicate 32 0 := rfl
      have e1 : madeCells (Value.int .u8 0).cells 32 = (bytesV (List.replicate 32 0)).toArray := by kernel_rfl
      rw [e0, ← e1]
      exact h
    gi_wp2_with fail
    refine wpIn_abs (fun V => Holds_ V w.heap.size 24 (lanesV a) ∧ Sl V W.heap.size 5 1 (.slice (some ⟨W.heap.size, 0, none⟩) 32 32) 32 (bytesV (Kec.outTo a 0)) ∧ Below w.heap.size w V ∧ V.heap[D]? = some (.deferred (some []))) ?f1 ?g1
    case f1 =>
      have hsz := hB.size
      refine ⟨hA.alloc _, ⟨by rw [bytesV_length, Kec.outTo_length], .inr ⟨W.heap.size, 32, _, (0, 0), rfl, Nat.le_refl _, heap_alloc_new W _, .inr rfl, Nat.le_refl _, by unfold maxLen; omega, by rw [List.size_toArray, bytesV_length, Kec.outTo_length], ?_⟩⟩, hB.alloc hsz _, (heap_alloc_old W _ _ (lt_of_heap hK)).trans hK⟩
      exact List.take_of_length_le (by simp [bytesV_length, Kec.outTo_length])
    rintro V1 ⟨hA1, hO1, hB1, hK1⟩
    have hDlt := lt_of_heap hK
    clear hmk
    gi_loopw [39] (fun t wr => ∃ k : Nat, k ≤ 32 ∧ t = .int .i64 k ∧ Holds_ wr w.heap.size 24 (lanesV a) ∧ Sl wr W.heap.size 5 1 (.slice (some ⟨W.heap.size, 0, none⟩) 32 32) 32 (bytesV (Kec.outTo a k)) ∧ Below w.heap.size w wr ∧ wr.heap[D]? = some (.deferred (some [])))
      (fun t _ => 32 - (intOf t).toNat)
    case atStart => exact ⟨0, by omega, rfl, hA1, hO1, hB1, hK1⟩
    case round =>
      obtain ⟨k, hk, rfl, hA, hO, hB, hK⟩ := hrel
      by_cases hlt : k < 32
      · have hsucc := Kec.outTo_succ a k
        have hbyte : (Kec.outByte a k).toNat = a (k / 8) / 2 ^ (8 * (k % 8)) % 256 := by simp [Kec.outByte]
        obtain ⟨x, hx⟩ : ∃ x, k / 8 = x := ⟨_, rfl⟩
        obtain ⟨y, hy⟩ : ∃ y, k % 8 = y := ⟨_, rfl⟩
        rw [hx, hy] at hbyte
        have e1 : (k : Int) / 8 = (x : Int) := by omega
        have e2 : (k : Int) % 8 = (y : Int) := by omega
        have hx25 : (x : Int) < 25 := by omega
        have hy8 : (y : Int) ≤ 7 := by omega
        have hk32 : (k : Int) < 32 := by omega
        have HS2 := Lib.hid hsucc
        have HB2 := Lib.hid hbyte
        clear hsucc hbyte hx hy
        have hc1 : wr.cell? ⟨w.heap.size, x, none⟩ = some (.int .u64 (a x : Nat)) := (hA.cell _).trans (row_get _ _ _ _ (by omega))
        have hc2 : wr.cell? ⟨W.heap.size, k, none⟩ = (bytesV (Kec.outTo a k))[k]? := hO.cell _ (by omega)
        rw [bytesV_get _ _ (by rw [Kec.outTo_length]; exact hlt)] at hc2
        have hf2 : wr.frozen? ⟨W.heap.size, k, none⟩ = false := hO.free _ (by omega)
        gi_wp2
        have ev : ((a x : Int) / 2 ^ (8 * y) % 256) = ((Kec.outByte a k).toNat : Int) := by rw [HB2.out]; simp
        rw [ev]
        refine ⟨⟨k + 1, by omega, by go_num, ?_, ?_, ?_, ?_⟩, by simp [intOf]; omega⟩
        · exact hA.far (p := ⟨W.heap.size, k, none⟩) (by have := hB1.size; have := hS.lt w1.heap.size rfl; simp; omega) _
        · rw [HS2.out]
          exact hO.putByte k _
        · exact hB.setCell (p := ⟨W.heap.size, k, none⟩) (by have := hS.lt w1.heap.size rfl; simp; omega) _
        · exact (heap_setCell_other _ _ _ _ (by simp; omega)).trans hK
      · obtain rfl : k = 32 := by omega
        have hback := run_string_of_Sl (P := Tryd.prog) 27 9 5 Tryd.underlying27 Tryd.underlying5 Tryd.underlying9 hO
        rw [Kec.outTo_all] at hback
        gi_wp2_with fail
        rw [HS.out]
        refine ⟨by simp, .inl ⟨D, _, rfl, run_takeDeferred hK, _, results_tmp2 rfl _ _ _, rfl, ?_⟩⟩
        exact hB.grown (grownBy_putObj' _ D _) hB.size (fun k e => by cases e; omega)
  case stop =>
    rintro D c pre W _ _ h _
    exact h.elim
end Go.Proofs.YtblfodhbimgonaaDoor
