/- ShaTells, by its walk. -/
import Derived.Test.YtkgbecgdappjoaaDoorNl
namespace Go.Proofs.YtkgbecgdappjoaaDoor
open Go.RowKit Go.Shelf
set_option linter.unusedVariables false
set_option linter.unusedSimpArgs false

theorem madeCells_bytes (n : Nat) : madeCells (Value.int .u8 0).cells n = (bytesV (List.replicate n 0)).toArray := by
  have hl : (bytesV (List.replicate n 0)).length = n := by rw [bytesV_length, List.length_replicate]
  have hz : ∀ i, i < n → (madeCells (Value.int .u8 0).cells n)[i]? = some (.int .u8 0) := by
    intro i hi
    simp only [madeCells, Value.cells]
    rw [Array.getElem?_map]
    simp [hi, Nat.mod_one]
  apply Array.ext_getElem?
  intro i
  by_cases hi : i < n
  · rw [hz i hi]
    have := bytesV_get (List.replicate n 0) i (by rw [List.length_replicate]; exact hi)
    simp at this
    simp [this]
  · rw [Array.getElem?_eq_none (by rw [size_madeCells]; omega), Array.getElem?_eq_none (by rw [List.size_toArray, hl]; omega)]
theorem run_zeros (n : Nat) (hn : n ≤ 2000000) (W : World) : (Instr.makeSlice 26 (.int .i64 (n : Int)) (.int .i64 (n : Int))).run Tryd.prog W = .ok (.slice (some ⟨W.heap.size, 0, none⟩) n n) (W.alloc (.cells (bytesV (List.replicate n 0)).toArray 5)) := by
  obtain ⟨i5, hi5, hz0, hz1, hz2⟩ := info_parts info5
  have h := run_make (P := Tryd.prog) W 26 5 i5 _ Tryd.underlying26 hi5 hz0 .i64 .i64 n n (by omega) (by omega) (by rw [hz2]; omega) (by omega)
  rw [hz1, Nat.mul_one] at h
  simp only [Int.toNat_natCast] at h
  rw [h, madeCells_bytes]
theorem run_zstring (n : Nat) (hn : n ≤ 100000) (W : World) : (convert 26 9 (.slice (some ⟨W.heap.size, 0, none⟩) n n)).run Tryd.prog (W.alloc (.cells (bytesV (List.replicate n 0)).toArray 5)) = .ok (.string (str (List.replicate n 0))) (W.alloc (.cells (bytesV (List.replicate n 0)).toArray 5)) :=
  run_string_of_Sl (P := Tryd.prog) 26 9 5 Tryd.underlying26 Tryd.underlying5 Tryd.underlying9 (bytes_holds (Holds_.new W 5 _) List.length_replicate hn)
theorem run_loadVar_off {P : Program} (w : World) (g off : Nat) (ty : TypeId) (cs : Array Value) (d : TypeDesc) (hg : ∀ j u, cs[j]? = some u → w.cell? ⟨g, off + j, none⟩ = some u)
    (hu : P.underlying ty = some d) (hd : (match d with | .struct _ | .array _ _ => true | _ => false) = true) (hi : (P.info? ty).map (·.size) = some cs.size) :
    (loadVar ty ⟨g, off, none⟩).run P w = .ok (.agg cs) w := by
  have hl : (loadCells ⟨g, off, none⟩ cs.toList.length).run P w = .ok cs.toList.toArray w :=
    run_loadCells_list (P := P) w ⟨g, off, none⟩ cs.toList (fun j v hv => by
      have hadd : (⟨g, off, none⟩ : Addr).add j = ⟨g, off + j, none⟩ := by unfold Addr.add; split <;> simp_all
      rw [hadd]
      exact hg j v (by simpa using hv))
  cases hq : P.info? ty with
  | none => simp [hq] at hi
  | some i =>
    have hs : i.size = cs.size := by simpa [hq] using hi
    have hagg : (isAgg ty).run P w = .ok true w := by
      unfold isAgg
      rw [Sem.run_bind, run_underlying hu w]
      cases d <;> simp_all
    simp only [Array.length_toList, Array.toArray_toList] at hl
    simp [loadVar, Sem.run_bind, hagg, sizeOf, typeInfo, hq, hs, hl]
theorem wpList_loadOff {ops : Array Oper} {rest : List Oper} {o : Oper} {a : Act} {w : World} {Q : Exit → Act → World → Prop} (hgd : o.guard = none) (x : Operand) (ho : o.op = .load 24 x)
    (g off : Nat) (hx : a.eval x = .pointer (some ⟨g, off, none⟩)) (f : Nat → Nat) (hg : ∀ j u, (wordV f)[j]? = some u → w.cell? ⟨g, off + j, none⟩ = some u)
    (h : wpList Tryd.prog ops Q rest (a.put o.dst (.agg (wordV f))) w) : wpList Tryd.prog ops Q (o :: rest) a w :=
  wpList_plain hgd fun K hK => by
    unfold Oper.wp execOp
    have hr := run_loadVar_off (P := Tryd.prog) w g off 24 (wordV f) _ hg Tryd.underlying24 rfl (by rw [row_size]; exact info24)
    simp only [ho, hx, Instr.loadAt, Instr.sureAddr, Sem.run_bind, Sem.run_pure, Result.andThen_ok, hr]
    exact hK _ _ h

def pww (f g : Nat → Nat) : Value → World → Prop := fun v W => ∃ b, v = .slice (some ⟨b, 0, none⟩) 2 2 ∧ Holds_ W b 24 #[.int .u64 (f 0 : Nat), .int .u64 (f 1 : Nat), .int .u64 (f 2 : Nat), .int .u64 (f 3 : Nat), .int .u64 (g 0 : Nat), .int .u64 (g 1 : Nat), .int .u64 (g 2 : Nat), .int .u64 (g 3 : Nat)]
theorem st_pww (f g : Nat → Nat) : Stable_ (pww f g) := fun v W W' hk ⟨b, e, h⟩ => ⟨b, e, h.below hk h.lt⟩
theorem does_words {o : Oper} {a : Act} {W : World} {G : Value → World → Prop} (f g : Nat → Nat) (x y : Operand) (ho : o.op = .buildSlice 33 2 #[(0, x), (1, y)]) (ex : a.eval x = .agg (wordV f)) (ey : a.eval y = .agg (wordV g)) (hG : ∀ v W', Keep W W' → pww f g v W' → G v W') : DoesV Tryd.prog o a W G := by
  have ex' : a.eval x = .agg #[.int .u64 (f 0 : Nat), .int .u64 (f 1 : Nat), .int .u64 (f 2 : Nat), .int .u64 (f 3 : Nat)] := ex
  have ey' : a.eval y = .agg #[.int .u64 (g 0 : Nat), .int .u64 (g 1 : Nat), .int .u64 (g 2 : Nat), .int .u64 (g 3 : Nat)] := ey
  refine does_runW (.slice (some ⟨W.heap.size, 0, none⟩) 2 2) (W.alloc (.cells #[.int .u64 (f 0 : Nat), .int .u64 (f 1 : Nat), .int .u64 (f 2 : Nat), .int .u64 (f 3 : Nat), .int .u64 (g 0 : Nat), .int .u64 (g 1 : Nat), .int .u64 (g 2 : Nat), .int .u64 (g 3 : Nat)] 24)) ?_ (hG _ _ ((Below.refl _ _).alloc (Nat.le_refl _) _) ⟨_, rfl, Holds_.new W 24 _⟩)
  have key : ∀ ρ : Operand → Value, ρ x = .agg #[.int .u64 (f 0 : Nat), .int .u64 (f 1 : Nat), .int .u64 (f 2 : Nat), .int .u64 (f 3 : Nat)] → ρ y = .agg #[.int .u64 (g 0 : Nat), .int .u64 (g 1 : Nat), .int .u64 (g 2 : Nat), .int .u64 (g 3 : Nat)] → (execOp ρ o).run Tryd.prog W = .ok (.value (.slice (some ⟨W.heap.size, 0, none⟩) 2 2)) (W.alloc (.cells #[.int .u64 (f 0 : Nat), .int .u64 (f 1 : Nat), .int .u64 (f 2 : Nat), .int .u64 (f 3 : Nat), .int .u64 (g 0 : Nat), .int .u64 (g 1 : Nat), .int .u64 (g 2 : Nat), .int .u64 (g 3 : Nat)] 24)) := fun ρ e1 e2 => by
    simp [execOp, ho, go_sem, e1, e2]
  exact key _ ex' ey'
theorem word_part (f g : Nat → Nat) (W : World) (b i : Nat) (hi : i < 2) (h : Holds_ W b 24 #[.int .u64 (f 0 : Nat), .int .u64 (f 1 : Nat), .int .u64 (f 2 : Nat), .int .u64 (f 3 : Nat), .int .u64 (g 0 : Nat), .int .u64 (g 1 : Nat), .int .u64 (g 2 : Nat), .int .u64 (g 3 : Nat)]) :
    ∃ q : Nat → Nat, ∀ j u, (wordV q)[j]? = some u → W.cell? ⟨b, i * 4 + j, none⟩ = some u := by
  refine ⟨if i = 0 then f else g, fun j u hu => ?_⟩
  have hj : j < 4 := by have := (Array.getElem?_eq_some_iff.1 hu).1; rwa [row_size] at this
  rw [h.cell, ← hu]
  have hc : (i = 0 ∨ i = 1) ∧ (j = 0 ∨ j = 1 ∨ j = 2 ∨ j = 3) := by omega
  rcases hc with ⟨rfl | rfl, rfl | rfl | rfl | rfl⟩ <;> rfl

set_option maxRecDepth 100000 in
set_option maxHeartbeats 8000000 in
theorem tells_true (l : List UInt8) (hl : l.length ≤ 9223372036854775807) (n : Int) (hn : -9223372036854775808 ≤ n ∧ n ≤ 9223372036854775807) (f : Nat → Nat) (gas many : Int) (hg : -9223372036854775808 ≤ gas ∧ gas ≤ 9223372036854775807) (hm : -9223372036854775808 ≤ many ∧ many ≤ 9223372036854775807) (w : World) (hT : Table w) :
    Calls Tryd.prog 3 #[.string (str l), .int .i64 n, .agg (wordV f), .int .i64 gas, .int .i64 many] w fun e W' => e = .returned (.bool true) ∧ Below w.heap.size w W' := by
  obtain ⟨x, hx, key⟩ : ∃ x : List UInt8, x.length ≤ 300 ∧ ((300 < l.length ∧ (str l).extract 0 300 = str x) ∨ (l.length ≤ 300 ∧ l = x)) := by
    by_cases h : 300 < l.length
    · exact ⟨l.take 300, by rw [List.length_take]; omega, .inl ⟨h, str_cut l 300⟩⟩
    · exact ⟨l, by omega, .inr ⟨by omega, rfl⟩⟩
  obtain ⟨k, hk, hpk⟩ := pick_nat n 200 w (by omega) (by omega) hn.1 hn.2
  have hpk' : ∀ w, Calls Tryd.prog 9 #[.int .i64 n, .int .i64 200] w fun e W' => e = .returned (.int .i64 k) ∧ w = W' := hpk
  obtain ⟨k6, hk6, hp6⟩ := pick_nat n 6 w (by omega) (by omega) hn.1 hn.2
  have hp6' : ∀ w, Calls Tryd.prog 9 #[.int .i64 n, .int .i64 6] w fun e W' => e = .returned (.int .i64 k6) ∧ w = W' := hp6
  obtain ⟨kg, hkg, hpg⟩ := pick_nat gas 200 w (by omega) (by omega) hg.1 hg.2
  have hpg' : ∀ w, Calls Tryd.prog 9 #[.int .i64 gas, .int .i64 200] w fun e W' => e = .returned (.int .i64 kg) ∧ w = W' := hpg
  have hof := ref_of k6 (by omega)
  clear hpk hp6 hpg
  have s1 := str_size l
  have hmk := run_zeros k (by omega)
  have hst := run_zstring k (by omega)
  have hzl : (List.replicate k (0 : UInt8)).length ≤ 300 := by rw [List.length_replicate]; omega
  generalize List.replicate k (0 : UInt8) = y at *
  generalize ofN k6 = f6 at *
  have hA0 := Holds_.new w 24 (wordV f)
  have B0 := (Below.refl w.heap.size w).alloc (Nat.le_refl _) (.cells (wordV f) 24)
  rcases key with ⟨hc, hcut⟩ | ⟨hc, rfl⟩
  · have hc' : (300 : Int) < (l.length : Int) := by omega
    go_enter Tryd.func3, Tryd.ntmps3
    go_wp2_with fail
    refine (awake_any _ (hT.below B0 hT.pos)).mono ?_
    rintro e w1 ⟨rfl, hb⟩
    have hA := hA0.below hb hA0.lt
    have B1 := B0.trans (hb.mono B0.size)
    clear hb hA0 B0
    go_wp2_with fail
    refine (hpk' _).mono ?_
    rintro e w' ⟨rfl, rfl⟩
    clear hpk'
    go_wp2_with fail
    clear hmk hst
    refine wp_abs (fun W => Holds_ W (w1.heap.size + 1) 9 #[.string (str x), .string (str y)] ∧ Holds_ W w.heap.size 24 (wordV f) ∧ Below w.heap.size w W) ?f0 ?g0
    case f0 =>
      have h := Holds_.new (w1.alloc (.cells (bytesV y).toArray 5)) 9 #[.string (str x), .string (str y)]
      simp only [World.size_alloc] at h
      exact ⟨h, (hA.alloc _).alloc _, (B1.alloc B1.size _).alloc (by have := B1.size; simp; omega) _⟩
    rintro W3 ⟨hH, hA, B3⟩
    generalize w1.heap.size + 1 = gS at *
    clear B1
    go_loopw [49] (fun iv wr => ∃ j : Nat, j ≤ 2 ∧ iv = .int .i64 j ∧ Below W3.heap.size W3 wr) (fun iv _ => 2 - (intOf iv).toNat)
    case atStart => exact ⟨0, by omega, rfl, Below.refl _ _⟩
    case round =>
      obtain ⟨j, hj, rfl, hB⟩ := hrel
      have B4 := B3.trans (hB.mono B3.size)
      have hbs := hB.size
      have hA := hA.below hB hA.lt
      by_cases hlt : j < 2
      · obtain ⟨t, hu, htl⟩ : ∃ t : List UInt8, (#[.string (str x), .string (str y)] : Array Value)[j]? = some (.string (str t)) ∧ t.length ≤ 300 := by
          match j, hlt with
          | 0, _ => exact ⟨x, rfl, hx⟩
          | 1, _ => exact ⟨y, rfl, hzl⟩
        have q0 := ((hH.below hB hH.lt).cell j).trans hu
        have j1 : (j : Int) < 2 := by omega
        have h1 := fun W hW => sum_str t (by omega) W hW
        have h2 := rsum_str t (by omega)
        have h3 := fun f gas h1 h2 W hW => run_any f t (by omega) gas h1 h2 W hW
        have h4 := fun f gas h1 h2 W => rrun_any f t (by omega) gas h1 h2 W
        have hrl : ∀ f gas, ∃ S, str (runL f t gas) = S := fun _ _ => ⟨_, rfl⟩
        generalize str (Sha.sumL t) = S at *
        clear hH hu hrl
        go_wp2_with fail
        refine (h1 _ (hT.below B4 hT.pos)).mono ?_
        rintro e y1 ⟨rfl, hb⟩
        have hA := hA.below hb hA.lt
        have hB := hB.trans (hb.mono hbs)
        have hbs := hB.size
        clear hb h1 q0 B4
        go_wp2_with fail
        refine (h2 _).mono ?_
        rintro e y2 ⟨rfl, hb⟩
        have hA := hA.below hb hA.lt
        have hB := hB.trans (hb.mono hbs)
        have hbs := hB.size
        clear hb h2
        go_wp2_with fail
        refine wp_region_inv (fun V => Holds_ V w.heap.size 24 (wordV f) ∧ Below W3.heap.size W3 V) Keep (fsP [pv (.agg (wordV f)), pv (.int .i64 n), pv (.int .i64 (k6 : Int)), pv (.agg (wordV f6)), pww f f6, pv (.int .i64 2), pv (.int .i64 0)]) (by kernel_rfl) (by kernel_rfl) ?a2 ?a3 (fsP_st _ ?a4) ?a5 ?a6
        case a2 => kernel_rfl
        case a3 => exact ⟨hA.drew, hB.drew⟩
        case a4 => intro q hq; simp only [List.mem_cons, List.not_mem_nil, or_false] at hq; rcases hq with rfl | rfl | rfl | rfl | rfl | rfl | rfl <;> first | exact st_pv _ | exact st_pww _ _
        case a5 =>
          rintro a V ⟨hA, hB⟩ hold
          have e7 : a.eval (.tmp 7) = .pointer (some ⟨w.heap.size, 0, none⟩) := (hold 7 (by decide)).trans rfl
          have e1 : a.eval (.tmp 1) = .int .i64 n := (hold 1 (by decide)).trans rfl
          refine ⟨?_, ?_, ?_, ?_, ?_, ?_, ?_, trivial⟩
          · intro hp
            exact does_loadRow _ _ _ (by rw [row_size]; exact info24) rfl e7 hA ⟨⟨hA, hB⟩, Below.refl _ _, rfl⟩
          · intro hp
            exact does_move _ _ rfl e1 ⟨⟨hA, hB⟩, Below.refl _ _, rfl⟩
          · intro hp
            have e72 := preds_get hp 1 _ rfl rfl
            change a.eval (.tmp 72) = .int .i64 n at e72
            refine does_enter 9 #[.int .i64 n, .int .i64 6] ?_ ((hp6' V).mono ?_)
            · simp only [execOp, resolve, invoke, List.map_toArray, List.map_cons, List.map_nil, e72]
              simp [go_sem, Act.eval, resolve, invoke]
            · rintro e V' ⟨rfl, rfl⟩
              exact ⟨_, rfl, ⟨hA, hB⟩, Below.refl _ _, rfl⟩
          · intro hp
            have e73 := preds_get hp 2 _ rfl rfl
            change a.eval (.tmp 73) = .int .i64 (k6 : Int) at e73
            refine does_enter 12 #[.int .i64 (k6 : Int)] ?_ ((hof V).mono ?_)
            · simp only [execOp, resolve, invoke, List.map_toArray, List.map_cons, List.map_nil, e73]
              simp [go_sem, Act.eval, resolve, invoke]
            · rintro e V' ⟨rfl, hb⟩
              exact ⟨_, rfl, ⟨hA.below hb hA.lt, hB.trans (hb.mono hB.size)⟩, hb, rfl⟩
          · intro hp
            have e71 := preds_get hp 0 _ rfl rfl
            change a.eval (.tmp 71) = .agg (wordV f) at e71
            have e74 := preds_get hp 3 _ rfl rfl
            change a.eval (.tmp 74) = .agg (wordV f6) at e74
            exact does_words f f6 _ _ rfl e71 e74 (fun v V' hk hv => ⟨⟨hA.below hk hA.lt, hB.trans (hk.mono hB.size)⟩, hk, hv⟩)
          · intro hp
            obtain ⟨gb, e75, hG⟩ := (preds_get hp 4 _ rfl rfl : pww f f6 _ V)
            change a.eval (.tmp 75) = _ at e75
            refine does_run (.int .i64 2) ?_ ⟨⟨hA, hB⟩, Below.refl _ _, rfl⟩
            simp only [execOp, resolve, invoke, List.map_toArray, List.map_cons, List.map_nil, e75]
            simp [go_sem, Act.eval, resolve, invoke]
          · intro hp
            exact does_move _ _ rfl rfl ⟨⟨hA, hB⟩, Below.refl _ _, rfl⟩
        case a6 =>
        clear hA hB hbs
        rintro z V ⟨hA, hB⟩ hall
        obtain ⟨-, -, -, -, z75, z76, z77, -⟩ := hall
        have z75' : pww f f6 (z 75) V := z75
        clear z75
        obtain ⟨gb, z75, hG⟩ := z75'
        change z 76 = .int .i64 2 at z76
        change z 77 = .int .i64 0 at z77
        have hbs := hB.size
        simp only [dsts, List.length_cons, List.length_nil, Nat.reduceAdd, List.take_succ_cons, List.take_zero, List.filterMap_cons, List.filterMap_nil, List.foldl_cons, List.foldl_nil, List.setIfInBounds_toArray, List.set_cons_succ, List.set_cons_zero]
        simp only [z75, z76, z77]
        generalize z 71 = z71
        generalize z 72 = z72
        generalize z 73 = z73
        generalize z 74 = z74
        clear z75 z76 z77 hA
        go_wp2_with fail
        go_loopw [77] (fun iv wq => ∃ i : Nat, i ≤ 2 ∧ iv = .int .i64 i ∧ Below V.heap.size V wq) (fun iv _ => 2 - (intOf iv).toNat)
        case atStart => exact ⟨0, by omega, rfl, Below.refl _ _⟩
        case round =>
          obtain ⟨i, hi, rfl, hD⟩ := hrel
          have hBq := hB.trans (hD.mono hbs)
          have hbq := hBq.size
          have hds := hD.size
          by_cases hlt2 : i < 2
          · obtain ⟨q, hq⟩ := word_part f f6 wr gb i hlt2 (hG.below hD hG.lt)
            have j2 : (i : Int) < 2 := by omega
            have hcost := cost_any q many hm.1 hm.2
            have hrc := rcost_any q many hm.1 hm.2
            generalize costI q many = ci at *
            generalize costB q many = cb at *
            have hP := (Holds_.new wr 24 (wordV (fun _ => 0))).putRow (wordV q)
            have hDn := below_putRow (hD.alloc hds (.cells (wordV (fun _ => 0)) 24)) hds (wordV q)
            clear hG hBq
            go_wp2_with (first
              | ((with_reducible show wpList _ _ _ (⟨some 80, _, _, _, _, _⟩ :: _) _ _); go_loud (refine wpList_loadOff rfl _ rfl gb (i * 4) rfl q hq ?_))
              | ((with_reducible show wpList _ _ _ (⟨some 82, _, _, _, _, _⟩ :: _) _ _); go_loud (refine wpList_loadRow rfl 24 _ rfl wr.heap.size rfl 24 _ _ hP Tryd.underlying24 rfl (by rw [row_size]; exact info24) ?_))
              | ((with_reducible show wpList _ _ _ (⟨none, _, _, _, _, _⟩ :: _) _ _); go_loud (refine wpList_storeRow rfl 24 _ _ rfl wr.heap.size (wordV q) rfl rfl 24 _ (Holds_.new wr 24 _) (by rw [row_size]; exact info24) (by simp [row_size]) (row_one _ _ _) ?_)))
            refine calls_abs' (fun W => Holds_ W wr.heap.size 24 (wordV q) ∧ Below V.heap.size V W) ⟨hP, hDn⟩ ?_
            clear hP hDn hD hds
            generalize hgw : wr.heap.size = gw at *
            rintro W ⟨hP, hD⟩
            refine (hcost W).mono ?_
            rintro e u1 ⟨rfl, hb⟩
            have hP := hP.below hb hP.lt
            have hD := hD.trans (hb.mono hD.size)
            clear hb hcost hq
            go_wp2_with ((with_reducible show wpList _ _ _ (⟨some 88, _, _, _, _, _⟩ :: _) _ _); go_loud (refine wpList_loadRow rfl 24 _ rfl gw rfl 24 _ _ hP Tryd.underlying24 rfl (by rw [row_size]; exact info24) ?_))
            refine (hrc _).mono ?_
            rintro e u2 ⟨rfl, hb⟩
            have hP := hP.below hb hP.lt
            have hD := hD.trans (hb.mono hD.size)
            clear hb hrc
            go_wp2_with fail
            refine (hpg' _).mono ?_
            rintro e u' ⟨rfl, rfl⟩
            go_wp2_with fail
            refine wp_abs (fun W => Holds_ W u2.heap.size 3 #[.int .i64 gas, .int .i64 (kg : Nat)] ∧ Holds_ W gw 24 (wordV q) ∧ Below V.heap.size V W) ⟨Holds_.new _ _ _, hP.alloc _, hD.alloc hD.size _⟩ ?_
            clear hP hD
            generalize u2.heap.size = gg at *
            rintro W4 ⟨hGG, hP, hD⟩
            have hds := hD.size
            go_loopw [106] (fun iv wq => ∃ m : Nat, m ≤ 2 ∧ iv = .int .i64 m ∧ Below W4.heap.size W4 wq) (fun iv _ => 2 - (intOf iv).toNat)
            case atStart => exact ⟨0, by omega, rfl, Below.refl _ _⟩
            case round =>
              obtain ⟨m, hm2, rfl, hE⟩ := hrel
              have hes := hE.size
              by_cases hlt3 : m < 2
              · obtain ⟨gs, hu, hg1, hg2⟩ : ∃ gs : Int, (#[.int .i64 gas, .int .i64 (kg : Nat)] : Array Value)[m]? = some (.int .i64 gs) ∧ -9223372036854775808 ≤ gs ∧ gs ≤ 9223372036854775807 := by
                  match m, hlt3 with
                  | 0, _ => exact ⟨_, rfl, hg.1, hg.2⟩
                  | 1, _ => exact ⟨_, rfl, by omega, by omega⟩
                have q0 := ((hGG.below hE hGG.lt).cell m).trans hu
                have hPm := hP.below hE hP.lt
                have j3 : (m : Int) < 2 := by omega
                have hwB := B3.trans ((hB.trans ((hD.trans (hE.mono hds)).mono hbs)).mono B3.size)
                have hr1 := h3 q gs hg1 hg2
                have hr2 := h4 q gs hg1 hg2
                generalize str (runL q t gs) = RS at *
                generalize runI q t gs = RI at *
                generalize goesB q t gs = RB at *
                clear hu hGG
                go_wp2_with ((with_reducible show wpList _ _ _ (⟨some 111, _, _, _, _, _⟩ :: _) _ _); go_loud (refine wpList_loadRow rfl 24 _ rfl gw rfl 24 _ _ hPm Tryd.underlying24 rfl (by rw [row_size]; exact info24) ?_))
                refine (hr1 _ (hT.below hwB hT.pos)).mono ?_
                rintro e v1 ⟨rfl, hb⟩
                have hPm := hPm.below hb hPm.lt
                have hE := hE.trans (hb.mono hes)
                have hes := hE.size
                clear hb hr1 hwB q0
                go_wp2_with ((with_reducible show wpList _ _ _ (⟨some 119, _, _, _, _, _⟩ :: _) _ _); go_loud (refine wpList_loadRow rfl 24 _ rfl gw rfl 24 _ _ hPm Tryd.underlying24 rfl (by rw [row_size]; exact info24) ?_))
                refine (hr2 _).mono ?_
                rintro e v2 ⟨rfl, hb⟩
                have hE := hE.trans (hb.mono hes)
                clear hb hr2 hPm
                go_wp2_with fail
                go_roundw
                case rel => exact ⟨m + 1, by omega, by go_num, hE⟩
                case measure => simp [intOf]; omega
              · obtain rfl : m = 2 := by omega
                have hD2 := hD.trans (hE.mono hds)
                go_wp2_with fail
                go_roundw
                case rel => exact ⟨i + 1, by omega, by go_num, hD2⟩
                case measure => simp [intOf]; omega
          · obtain rfl : i = 2 := by omega
            go_wp2_with fail
            go_roundw
            case rel => exact ⟨j + 1, by omega, by go_num, hBq⟩
            case measure => simp [intOf]; omega
      · obtain rfl : j = 2 := by omega
        go_wp2_with fail
        go_ret
        exact ⟨rfl, B4⟩
  · have hc' : ¬ (300 : Int) < (l.length : Int) := by omega
    go_enter Tryd.func3, Tryd.ntmps3
    go_wp2_with fail
    refine (awake_any _ (hT.below B0 hT.pos)).mono ?_
    rintro e w1 ⟨rfl, hb⟩
    have hA := hA0.below hb hA0.lt
    have B1 := B0.trans (hb.mono B0.size)
    clear hb hA0 B0
    go_wp2_with fail
    refine (hpk' _).mono ?_
    rintro e w' ⟨rfl, rfl⟩
    clear hpk'
    go_wp2_with fail
    clear hmk hst
    refine wp_abs (fun W => Holds_ W (w1.heap.size + 1) 9 #[.string (str l), .string (str y)] ∧ Holds_ W w.heap.size 24 (wordV f) ∧ Below w.heap.size w W) ?f1 ?g1
    case f1 =>
      have h := Holds_.new (w1.alloc (.cells (bytesV y).toArray 5)) 9 #[.string (str l), .string (str y)]
      simp only [World.size_alloc] at h
      exact ⟨h, (hA.alloc _).alloc _, (B1.alloc B1.size _).alloc (by have := B1.size; simp; omega) _⟩
    rintro W3 ⟨hH, hA, B3⟩
    generalize w1.heap.size + 1 = gS at *
    clear B1
    go_loopw [49] (fun iv wr => ∃ j : Nat, j ≤ 2 ∧ iv = .int .i64 j ∧ Below W3.heap.size W3 wr) (fun iv _ => 2 - (intOf iv).toNat)
    case atStart => exact ⟨0, by omega, rfl, Below.refl _ _⟩
    case round =>
      obtain ⟨j, hj, rfl, hB⟩ := hrel
      have B4 := B3.trans (hB.mono B3.size)
      have hbs := hB.size
      have hA := hA.below hB hA.lt
      by_cases hlt : j < 2
      · obtain ⟨t, hu, htl⟩ : ∃ t : List UInt8, (#[.string (str l), .string (str y)] : Array Value)[j]? = some (.string (str t)) ∧ t.length ≤ 300 := by
          match j, hlt with
          | 0, _ => exact ⟨l, rfl, hx⟩
          | 1, _ => exact ⟨y, rfl, hzl⟩
        have q0 := ((hH.below hB hH.lt).cell j).trans hu
        have j1 : (j : Int) < 2 := by omega
        have h1 := fun W hW => sum_str t (by omega) W hW
        have h2 := rsum_str t (by omega)
        have h3 := fun f gas h1 h2 W hW => run_any f t (by omega) gas h1 h2 W hW
        have h4 := fun f gas h1 h2 W => rrun_any f t (by omega) gas h1 h2 W
        have hrl : ∀ f gas, ∃ S, str (runL f t gas) = S := fun _ _ => ⟨_, rfl⟩
        generalize str (Sha.sumL t) = S at *
        clear hH hu hrl
        go_wp2_with fail
        refine (h1 _ (hT.below B4 hT.pos)).mono ?_
        rintro e y1 ⟨rfl, hb⟩
        have hA := hA.below hb hA.lt
        have hB := hB.trans (hb.mono hbs)
        have hbs := hB.size
        clear hb h1 q0 B4
        go_wp2_with fail
        refine (h2 _).mono ?_
        rintro e y2 ⟨rfl, hb⟩
        have hA := hA.below hb hA.lt
        have hB := hB.trans (hb.mono hbs)
        have hbs := hB.size
        clear hb h2
        go_wp2_with fail
        refine wp_region_inv (fun V => Holds_ V w.heap.size 24 (wordV f) ∧ Below W3.heap.size W3 V) Keep (fsP [pv (.agg (wordV f)), pv (.int .i64 n), pv (.int .i64 (k6 : Int)), pv (.agg (wordV f6)), pww f f6, pv (.int .i64 2), pv (.int .i64 0)]) (by kernel_rfl) (by kernel_rfl) ?b2 ?b3 (fsP_st _ ?b4) ?b5 ?b6
        case b2 => kernel_rfl
        case b3 => exact ⟨hA.drew, hB.drew⟩
        case b4 => intro q hq; simp only [List.mem_cons, List.not_mem_nil, or_false] at hq; rcases hq with rfl | rfl | rfl | rfl | rfl | rfl | rfl <;> first | exact st_pv _ | exact st_pww _ _
        case b5 =>
          rintro a V ⟨hA, hB⟩ hold
          have e7 : a.eval (.tmp 7) = .pointer (some ⟨w.heap.size, 0, none⟩) := (hold 7 (by decide)).trans rfl
          have e1 : a.eval (.tmp 1) = .int .i64 n := (hold 1 (by decide)).trans rfl
          refine ⟨?_, ?_, ?_, ?_, ?_, ?_, ?_, trivial⟩
          · intro hp
            exact does_loadRow _ _ _ (by rw [row_size]; exact info24) rfl e7 hA ⟨⟨hA, hB⟩, Below.refl _ _, rfl⟩
          · intro hp
            exact does_move _ _ rfl e1 ⟨⟨hA, hB⟩, Below.refl _ _, rfl⟩
          · intro hp
            have e72 := preds_get hp 1 _ rfl rfl
            change a.eval (.tmp 72) = .int .i64 n at e72
            refine does_enter 9 #[.int .i64 n, .int .i64 6] ?_ ((hp6' V).mono ?_)
            · simp only [execOp, resolve, invoke, List.map_toArray, List.map_cons, List.map_nil, e72]
              simp [go_sem, Act.eval, resolve, invoke]
            · rintro e V' ⟨rfl, rfl⟩
              exact ⟨_, rfl, ⟨hA, hB⟩, Below.refl _ _, rfl⟩
          · intro hp
            have e73 := preds_get hp 2 _ rfl rfl
            change a.eval (.tmp 73) = .int .i64 (k6 : Int) at e73
            refine does_enter 12 #[.int .i64 (k6 : Int)] ?_ ((hof V).mono ?_)
            · simp only [execOp, resolve, invoke, List.map_toArray, List.map_cons, List.map_nil, e73]
              simp [go_sem, Act.eval, resolve, invoke]
            · rintro e V' ⟨rfl, hb⟩
              exact ⟨_, rfl, ⟨hA.below hb hA.lt, hB.trans (hb.mono hB.size)⟩, hb, rfl⟩
          · intro hp
            have e71 := preds_get hp 0 _ rfl rfl
            change a.eval (.tmp 71) = .agg (wordV f) at e71
            have e74 := preds_get hp 3 _ rfl rfl
            change a.eval (.tmp 74) = .agg (wordV f6) at e74
            exact does_words f f6 _ _ rfl e71 e74 (fun v V' hk hv => ⟨⟨hA.below hk hA.lt, hB.trans (hk.mono hB.size)⟩, hk, hv⟩)
          · intro hp
            obtain ⟨gb, e75, hG⟩ := (preds_get hp 4 _ rfl rfl : pww f f6 _ V)
            change a.eval (.tmp 75) = _ at e75
            refine does_run (.int .i64 2) ?_ ⟨⟨hA, hB⟩, Below.refl _ _, rfl⟩
            simp only [execOp, resolve, invoke, List.map_toArray, List.map_cons, List.map_nil, e75]
            simp [go_sem, Act.eval, resolve, invoke]
          · intro hp
            exact does_move _ _ rfl rfl ⟨⟨hA, hB⟩, Below.refl _ _, rfl⟩
        case b6 =>
        clear hA hB hbs
        rintro z V ⟨hA, hB⟩ hall
        obtain ⟨-, -, -, -, z75, z76, z77, -⟩ := hall
        have z75' : pww f f6 (z 75) V := z75
        clear z75
        obtain ⟨gb, z75, hG⟩ := z75'
        change z 76 = .int .i64 2 at z76
        change z 77 = .int .i64 0 at z77
        have hbs := hB.size
        simp only [dsts, List.length_cons, List.length_nil, Nat.reduceAdd, List.take_succ_cons, List.take_zero, List.filterMap_cons, List.filterMap_nil, List.foldl_cons, List.foldl_nil, List.setIfInBounds_toArray, List.set_cons_succ, List.set_cons_zero]
        simp only [z75, z76, z77]
        generalize z 71 = z71
        generalize z 72 = z72
        generalize z 73 = z73
        generalize z 74 = z74
        clear z75 z76 z77 hA
        go_wp2_with fail
        go_loopw [77] (fun iv wq => ∃ i : Nat, i ≤ 2 ∧ iv = .int .i64 i ∧ Below V.heap.size V wq) (fun iv _ => 2 - (intOf iv).toNat)
        case atStart => exact ⟨0, by omega, rfl, Below.refl _ _⟩
        case round =>
          obtain ⟨i, hi, rfl, hD⟩ := hrel
          have hBq := hB.trans (hD.mono hbs)
          have hbq := hBq.size
          have hds := hD.size
          by_cases hlt2 : i < 2
          · obtain ⟨q, hq⟩ := word_part f f6 wr gb i hlt2 (hG.below hD hG.lt)
            have j2 : (i : Int) < 2 := by omega
            have hcost := cost_any q many hm.1 hm.2
            have hrc := rcost_any q many hm.1 hm.2
            generalize costI q many = ci at *
            generalize costB q many = cb at *
            have hP := (Holds_.new wr 24 (wordV (fun _ => 0))).putRow (wordV q)
            have hDn := below_putRow (hD.alloc hds (.cells (wordV (fun _ => 0)) 24)) hds (wordV q)
            clear hG hBq
            go_wp2_with (first
              | ((with_reducible show wpList _ _ _ (⟨some 80, _, _, _, _, _⟩ :: _) _ _); go_loud (refine wpList_loadOff rfl _ rfl gb (i * 4) rfl q hq ?_))
              | ((with_reducible show wpList _ _ _ (⟨some 82, _, _, _, _, _⟩ :: _) _ _); go_loud (refine wpList_loadRow rfl 24 _ rfl wr.heap.size rfl 24 _ _ hP Tryd.underlying24 rfl (by rw [row_size]; exact info24) ?_))
              | ((with_reducible show wpList _ _ _ (⟨none, _, _, _, _, _⟩ :: _) _ _); go_loud (refine wpList_storeRow rfl 24 _ _ rfl wr.heap.size (wordV q) rfl rfl 24 _ (Holds_.new wr 24 _) (by rw [row_size]; exact info24) (by simp [row_size]) (row_one _ _ _) ?_)))
            refine calls_abs' (fun W => Holds_ W wr.heap.size 24 (wordV q) ∧ Below V.heap.size V W) ⟨hP, hDn⟩ ?_
            clear hP hDn hD hds
            generalize hgw : wr.heap.size = gw at *
            rintro W ⟨hP, hD⟩
            refine (hcost W).mono ?_
            rintro e u1 ⟨rfl, hb⟩
            have hP := hP.below hb hP.lt
            have hD := hD.trans (hb.mono hD.size)
            clear hb hcost hq
            go_wp2_with ((with_reducible show wpList _ _ _ (⟨some 88, _, _, _, _, _⟩ :: _) _ _); go_loud (refine wpList_loadRow rfl 24 _ rfl gw rfl 24 _ _ hP Tryd.underlying24 rfl (by rw [row_size]; exact info24) ?_))
            refine (hrc _).mono ?_
            rintro e u2 ⟨rfl, hb⟩
            have hP := hP.below hb hP.lt
            have hD := hD.trans (hb.mono hD.size)
            clear hb hrc
            go_wp2_with fail
            refine (hpg' _).mono ?_
            rintro e u' ⟨rfl, rfl⟩
            go_wp2_with fail
            refine wp_abs (fun W => Holds_ W u2.heap.size 3 #[.int .i64 gas, .int .i64 (kg : Nat)] ∧ Holds_ W gw 24 (wordV q) ∧ Below V.heap.size V W) ⟨Holds_.new _ _ _, hP.alloc _, hD.alloc hD.size _⟩ ?_
            clear hP hD
            generalize u2.heap.size = gg at *
            rintro W4 ⟨hGG, hP, hD⟩
            have hds := hD.size
            go_loopw [106] (fun iv wq => ∃ m : Nat, m ≤ 2 ∧ iv = .int .i64 m ∧ Below W4.heap.size W4 wq) (fun iv _ => 2 - (intOf iv).toNat)
            case atStart => exact ⟨0, by omega, rfl, Below.refl _ _⟩
            case round =>
              obtain ⟨m, hm2, rfl, hE⟩ := hrel
              have hes := hE.size
              by_cases hlt3 : m < 2
              · obtain ⟨gs, hu, hg1, hg2⟩ : ∃ gs : Int, (#[.int .i64 gas, .int .i64 (kg : Nat)] : Array Value)[m]? = some (.int .i64 gs) ∧ -9223372036854775808 ≤ gs ∧ gs ≤ 9223372036854775807 := by
                  match m, hlt3 with
                  | 0, _ => exact ⟨_, rfl, hg.1, hg.2⟩
                  | 1, _ => exact ⟨_, rfl, by omega, by omega⟩
                have q0 := ((hGG.below hE hGG.lt).cell m).trans hu
                have hPm := hP.below hE hP.lt
                have j3 : (m : Int) < 2 := by omega
                have hwB := B3.trans ((hB.trans ((hD.trans (hE.mono hds)).mono hbs)).mono B3.size)
                have hr1 := h3 q gs hg1 hg2
                have hr2 := h4 q gs hg1 hg2
                generalize str (runL q t gs) = RS at *
                generalize runI q t gs = RI at *
                generalize goesB q t gs = RB at *
                clear hu hGG
                go_wp2_with ((with_reducible show wpList _ _ _ (⟨some 111, _, _, _, _, _⟩ :: _) _ _); go_loud (refine wpList_loadRow rfl 24 _ rfl gw rfl 24 _ _ hPm Tryd.underlying24 rfl (by rw [row_size]; exact info24) ?_))
                refine (hr1 _ (hT.below hwB hT.pos)).mono ?_
                rintro e v1 ⟨rfl, hb⟩
                have hPm := hPm.below hb hPm.lt
                have hE := hE.trans (hb.mono hes)
                have hes := hE.size
                clear hb hr1 hwB q0
                go_wp2_with ((with_reducible show wpList _ _ _ (⟨some 119, _, _, _, _, _⟩ :: _) _ _); go_loud (refine wpList_loadRow rfl 24 _ rfl gw rfl 24 _ _ hPm Tryd.underlying24 rfl (by rw [row_size]; exact info24) ?_))
                refine (hr2 _).mono ?_
                rintro e v2 ⟨rfl, hb⟩
                have hE := hE.trans (hb.mono hes)
                clear hb hr2 hPm
                go_wp2_with fail
                go_roundw
                case rel => exact ⟨m + 1, by omega, by go_num, hE⟩
                case measure => simp [intOf]; omega
              · obtain rfl : m = 2 := by omega
                have hD2 := hD.trans (hE.mono hds)
                go_wp2_with fail
                go_roundw
                case rel => exact ⟨i + 1, by omega, by go_num, hD2⟩
                case measure => simp [intOf]; omega
          · obtain rfl : i = 2 := by omega
            go_wp2_with fail
            go_roundw
            case rel => exact ⟨j + 1, by omega, by go_num, hBq⟩
            case measure => simp [intOf]; omega
      · obtain rfl : j = 2 := by omega
        go_wp2_with fail
        go_ret
        exact ⟨rfl, B4⟩
theorem tells_str (s : ByteArray) (hs : s.size ≤ maxLen) (n : Int) (hn : -9223372036854775808 ≤ n ∧ n ≤ 9223372036854775807) (f : Nat → Nat) (gas many : Int) (hg : -9223372036854775808 ≤ gas ∧ gas ≤ 9223372036854775807) (hm : -9223372036854775808 ≤ many ∧ many ≤ 9223372036854775807) (w : World) (hT : Table w) :
    Calls Tryd.prog 3 #[.string s, .int .i64 n, .agg (wordV f), .int .i64 gas, .int .i64 many] w fun e W' => e = .returned (.bool true) ∧ Below w.heap.size w W' := by
  have h := tells_true s.data.toList (by simpa [maxLen] using hs) n hn f gas many hg hm w hT
  rw [str_of] at h
  exact h
end Go.Proofs.YtkgbecgdappjoaaDoor
