/- The document's root, by its walk. -/
import Derived.Test.YtkgbecgdappjoaaDoorNf
namespace Go.Proofs.YtkgbecgdappjoaaDoor
open Go.RowKit Go.Shelf
set_option linter.unusedVariables false
set_option linter.unusedSimpArgs false

def pwR (cube : Bool) (y : Nat) : Nat := if cube = true then y * y * y else y * y
def limR (cube : Bool) (n : Nat) : Nat := if cube = true then n * 2 ^ 96 else n * 2 ^ 64
def rootTo (n : Nat) (cube : Bool) : Nat → Nat
  | 0 => 0
  | j + 1 => if pwR cube (rootTo n cube j + 2 ^ (40 - j)) ≤ limR cube n then rootTo n cube j + 2 ^ (40 - j) else rootTo n cube j
theorem rootTo_le (n : Nat) (cube : Bool) (j : Nat) (hj : j ≤ 41) : rootTo n cube j + 2 ^ (41 - j) ≤ 2 ^ 41 := by
  induction j with
  | zero => exact Nat.le_of_eq (Nat.zero_add _)
  | succ j ih =>
    have h1 := ih (by omega)
    have h2 : 2 ^ (41 - j) = 2 ^ (40 - j) + 2 ^ (40 - j) := by rw [show 41 - j = (40 - j) + 1 by omega, Nat.pow_succ]; omega
    rw [show 41 - (j + 1) = 40 - j by omega]
    simp only [rootTo]
    generalize 2 ^ (40 - j) = c at *
    split <;> omega
def rootN (n : Nat) (cube : Bool) : Nat := rootTo n cube 41 % 4294967296
theorem want_sq (n : Nat) (hn : n < 512) : wordV (wordOf (limR false n)) = #[.int .u64 0, .int .u64 (n : Nat), .int .u64 0, .int .u64 0] := by
  have h : limR false n = n * 2 ^ 64 := rfl
  rw [h]
  show (#[Value.int .u64 (wordOf (n * 2 ^ 64) 0 : Nat), Value.int .u64 (wordOf (n * 2 ^ 64) 1 : Nat), Value.int .u64 (wordOf (n * 2 ^ 64) 2 : Nat), Value.int .u64 (wordOf (n * 2 ^ 64) 3 : Nat)] : Array Value) = _
  have h0 : wordOf (n * 2 ^ 64) 0 = 0 := by unfold wordOf; omega
  have h1 : wordOf (n * 2 ^ 64) 1 = n := by unfold wordOf; omega
  have h2 : wordOf (n * 2 ^ 64) 2 = 0 := by unfold wordOf; omega
  have h3 : wordOf (n * 2 ^ 64) 3 = 0 := by unfold wordOf; omega
  rw [h0, h1, h2, h3]
  rfl
theorem want_cu (n : Nat) (hn : n < 512) : wordV (wordOf (limR true n)) = #[.int .u64 0, .int .u64 ((n : Int) * 4294967296), .int .u64 0, .int .u64 0] := by
  have h : limR true n = n * 2 ^ 96 := rfl
  rw [h]
  show (#[Value.int .u64 (wordOf (n * 2 ^ 96) 0 : Nat), Value.int .u64 (wordOf (n * 2 ^ 96) 1 : Nat), Value.int .u64 (wordOf (n * 2 ^ 96) 2 : Nat), Value.int .u64 (wordOf (n * 2 ^ 96) 3 : Nat)] : Array Value) = _
  have h0 : wordOf (n * 2 ^ 96) 0 = 0 := by unfold wordOf; omega
  have h1 : wordOf (n * 2 ^ 96) 1 = n * 4294967296 := by unfold wordOf; omega
  have h2 : wordOf (n * 2 ^ 96) 2 = 0 := by unfold wordOf; omega
  have h3 : wordOf (n * 2 ^ 96) 3 = 0 := by unfold wordOf; omega
  rw [h0, h1, h2, h3]
  rfl
theorem does_loadRow {o : Oper} {a : Act} {W : World} {G : Value → World → Prop} (x : Operand) (g : Nat) (cs : Array Value) (hcs : (Tryd.prog.info? 24).map (·.size) = some cs.size) (ho : o.op = .load 24 x) (ex : a.eval x = .pointer (some ⟨g, 0, none⟩)) (hg : Holds_ W g 24 cs) (hG : G (.agg cs) W) : DoesV Tryd.prog o a W G := by
  refine does_run _ ?_ hG
  have h := run_loadVar_row (P := Tryd.prog) W g 24 24 cs (0, 0) _ hg Tryd.underlying24 rfl hcs
  simp [execOp, ho, ex, Instr.loadAt, Instr.sureAddr, h, Result.andThen]
theorem mul_word (A B : Nat) (w : World) : Calls Tryd.prog 35 #[.agg (wordV (wordOf A)), .agg (wordV (wordOf B))] w fun e W' => e = .returned (.agg (wordV (wordOf (A * B)))) ∧ Below w.heap.size w W' :=
  mul_any (wordOf A) (wordOf B) (fun _ _ => wordOf_lt _ _) (fun _ _ => wordOf_lt _ _) (wordOf (A * B)) (fun z h j hj => mulW A B z h j hj) w

set_option maxRecDepth 100000 in
set_option maxHeartbeats 1000000 in
theorem root_false (n : Nat) (hn : n < 512) (w : World) :
    Calls Tryd.prog 31 #[.int .i64 (n : Int), .bool false] w fun e W' => e = .returned (.int .i64 ((rootN n false : Nat) : Int)) ∧ Below w.heap.size w W' := by
  have hw := want_sq n hn
  have e1 : IntKind.u64.wrap (n : Int) = (n : Int) := by rw [IntKind.wrap_u64]; omega
  have e2 : IntKind.u64.wrap ((n : Int) * 2 ^ 32) = ((n * 4294967296 : Nat) : Int) := by rw [IntKind.wrap_u64]; omega
  have e3 : IntKind.u64.wrap ((n : Int) * 4294967296) = ((n * 4294967296 : Nat) : Int) := by rw [IntKind.wrap_u64]; omega
  have hn' : (n : Int) < 512 := by omega
  have hW0 : Holds_ (w.alloc (.cells (wordV (wordOf (limR false n))) 24)) w.heap.size 24 (wordV (wordOf (limR false n))) := Holds_.new _ _ _
  have hB0 := (Below.refl w.heap.size w).alloc (Nat.le_refl _) (.cells (wordV (wordOf (limR false n))) 24)
  rw [hw] at hW0 hB0
  have hlim : limR false n < 2 ^ 256 := by unfold limR; simp; omega
  go_enter Tryd.func31, Tryd.ntmps31
  go_wp2_with fail
  refine wp_abs (fun W => Holds_ W w.heap.size 24 (wordV (wordOf (limR false n))) ∧ Below w.heap.size w W) ⟨by rw [hw]; exact hW0, hB0⟩ ?_
  clear hW0 hB0 e1 e2 e3 hw
  rintro W ⟨hW, hB⟩
  obtain ⟨ML, hML⟩ : ∃ ML, wordOf (limR false n) = ML := ⟨_, rfl⟩
  rw [hML] at hW
  go_loopw [6, 7] (fun xv kv wr => ∃ j : Nat, j ≤ 41 ∧ kv = .int .i64 (40 - (j : Int)) ∧ xv = .int .i64 ((rootTo n false j : Nat) : Int) ∧ Holds_ wr w.heap.size 24 (wordV ML) ∧ Below w.heap.size w wr) (fun _ kv _ => (intOf kv + 1).toNat)
  case atStart => exact ⟨0, by omega, rfl, rfl, hW, hB⟩
  case round =>
    clear hW hB
    obtain ⟨j, hj, rfl, rfl, hW, hB⟩ := hrel
    by_cases hlt : j < 41
    · obtain ⟨k, hk⟩ : ∃ k, 40 - j = k := ⟨_, rfl⟩
      have hki : (40 : Int) - (j : Int) = (k : Int) := by omega
      rw [hki]
      have hle := rootTo_le n false j (by omega)
      have hstep : rootTo n false (j + 1) = if pwR false (rootTo n false j + 2 ^ k) ≤ limR false n then rootTo n false j + 2 ^ k else rootTo n false j := by rw [← hk]; rfl
      rw [show 41 - j = k + 1 by omega, Nat.pow_succ] at hle
      have hp1 : 1 ≤ 2 ^ k := Nat.one_le_two_pow
      have hpi : ((2 : Int) ^ k) = ((2 ^ k : Nat) : Int) := by simp
      generalize rootTo n false j = x at *
      obtain ⟨p, hp⟩ : ∃ p, 2 ^ k = p := ⟨_, rfl⟩
      rw [hp] at hle hstep hp1 hpi
      obtain ⟨y, hy⟩ : ∃ y, x + p = y := ⟨_, rfl⟩
      rw [hy] at hstep
      have k0 : (0 : Int) ≤ (k : Int) := by omega
      have k40 : (k : Int) ≤ 40 := by omega
      have pl : (p : Int) ≤ 2199023255552 := by omega
      have k1 : IntKind.i64.wrap (p : Int) = (p : Int) := IntWalk.i64_in _ (by omega)
      have k2 : (x : Int) + (p : Int) = (y : Int) := by omega
      have yl : (y : Int) < 2199023255552 := by omega
      have hyl : y < 2199023255552 := by omega
      clear hk hp hle
      go_wp2_with fail
      refine (ref_ofN y (by omega) _).mono ?_
      rintro e w1 ⟨rfl, hb1⟩
      go_wp2_with fail
      refine (ref_ofN y (by omega) _).mono ?_
      rintro e w2 ⟨rfl, hb2⟩
      go_wp2_with fail
      have hmul := fun W => mul_word y y W
      obtain ⟨M2, hM2⟩ : ∃ M2, wordOf (y * y) = M2 := ⟨_, rfl⟩
      rw [hM2] at hmul
      refine (hmul _).mono ?_
      rintro e w3 ⟨rfl, hb3⟩
      have hb13 := (hb1.trans (hb2.mono hb1.size)).trans (hb3.mono (hb1.trans (hb2.mono hb1.size)).size)
      have hW3 := hW.below hb13 hW.lt
      have hB3 := hB.trans (hb13.mono hB.size)
      have hs3 : w.heap.size < w3.heap.size := hW3.lt
      clear hW hB hb1 hb2 hb3 hb13
      have hP := (Holds_.new w3 24 (wordV (fun _ => 0))).putRow (wordV M2)
      have hW := (hW3.alloc (.cells (wordV (fun _ => 0)) 24)).farRow (b := w3.heap.size) (by omega) (wordV M2)
      have hB := below_putRow (hB3.alloc hB3.size (.cells (wordV (fun _ => 0)) 24)) hB3.size (wordV M2)
      clear hW3 hB3
      have hpw : pwR false y = (y * y) := rfl
      rw [hpw] at hstep
      have hpl : (y * y) < 2 ^ 256 := Nat.lt_of_le_of_lt (Nat.mul_le_mul (show y ≤ 2199023255552 by omega) (show y ≤ 2199023255552 by omega)) (by decide)
      go_wp2_with (first
        | ((with_reducible show wpList _ _ _ (⟨none, _, _, _, _, _⟩ :: _) _ _); go_loud (refine wpList_storeRow rfl 24 _ _ rfl w3.heap.size (wordV M2) rfl rfl 24 _ (Holds_.new w3 24 _) (by rw [row_size]; exact info24) (by simp [row_size]) (row_one _ _ _) ?_))
        | ((with_reducible show wpList _ _ _ (⟨some 36, _, _, _, _, _⟩ :: _) _ _); go_loud (refine wpList_loadRow rfl 24 _ rfl w3.heap.size rfl 24 _ _ hP Tryd.underlying24 rfl (by rw [row_size]; exact info24) ?_))
        | ((with_reducible show wpList _ _ _ (⟨some 37, _, _, _, _, _⟩ :: _) _ _); go_loud (refine wpList_loadRow rfl 24 _ rfl w.heap.size rfl 24 _ _ hW Tryd.underlying24 rfl (by rw [row_size]; exact info24) ?_)))
      refine calls_abs' (fun W => Holds_ W w.heap.size 24 (wordV ML) ∧ Below w.heap.size w W) ⟨hW, hB⟩ ?_
      clear hW hB hP
      rintro W ⟨hW, hB⟩
      have hcmp := fun W => cmp_any (y * y) (limR false n) hpl hlim W
      rw [hM2, hML] at hcmp
      refine (hcmp _).mono ?_
      rintro e w4 ⟨rfl, hb4⟩
      have hW4 := hW.below hb4 hW.lt
      have hB4 := hB.trans (hb4.mono hB.size)
      clear hW hB hb4
      by_cases hc : (y * y) ≤ limR false n
      · rw [if_pos hc] at hstep
        have hci : cmpI (y * y) (limR false n) ≤ 0 := by unfold cmpI; split <;> first | decide | (rw [if_neg (by omega)]; decide)
        generalize cmpI (y * y) (limR false n) = ci at *
        have HS := Lib.hid hstep
        clear hstep hc hpl hlim
        go_wp2_with fail
        go_roundw
        case rel => exact ⟨j + 1, by omega, by rw [← hki]; first | done | go_num, by rw [HS.out], hW4, hB4⟩
        case measure => simp [intOf] <;> omega
      · rw [if_neg hc] at hstep
        have hci : cmpI (y * y) (limR false n) = 1 := by unfold cmpI; rw [if_neg (by omega), if_pos (by omega)]
        rw [hci]
        clear hci hcmp
        have HS := Lib.hid hstep
        clear hstep hc hpl hlim
        go_wp2_with fail
        go_roundw
        case rel => exact ⟨j + 1, by omega, by rw [← hki]; first | done | go_num, by rw [HS.out], hW4, hB4⟩
        case measure => simp [intOf] <;> omega
    · obtain rfl : j = 41 := by omega
      have hm : rootN n false = rootTo n false 41 % 4294967296 := rfl
      have hle := rootTo_le n false 41 (by omega)
      generalize rootTo n false 41 = x at *
      have k1 : (x : Int).tmod 4294967296 = ((rootN n false : Nat) : Int) := by rw [hm]; rfl
      have k2 : (x : Int) % 4294967296 = ((rootN n false : Nat) : Int) := by rw [hm]; rfl
      clear hm
      go_wp2_with fail
      go_ret
      exact ⟨rfl, hB⟩

set_option maxRecDepth 100000 in
set_option maxHeartbeats 1000000 in
theorem root_true (n : Nat) (hn : n < 512) (w : World) :
    Calls Tryd.prog 31 #[.int .i64 (n : Int), .bool true] w fun e W' => e = .returned (.int .i64 ((rootN n true : Nat) : Int)) ∧ Below w.heap.size w W' := by
  have hw := want_cu n hn
  have e1 : IntKind.u64.wrap (n : Int) = (n : Int) := by rw [IntKind.wrap_u64]; omega
  have e2 : IntKind.u64.wrap ((n : Int) * 2 ^ 32) = ((n * 4294967296 : Nat) : Int) := by rw [IntKind.wrap_u64]; omega
  have e3 : IntKind.u64.wrap ((n : Int) * 4294967296) = ((n * 4294967296 : Nat) : Int) := by rw [IntKind.wrap_u64]; omega
  have hn' : (n : Int) < 512 := by omega
  have hW0 : Holds_ (w.alloc (.cells (wordV (wordOf (limR true n))) 24)) w.heap.size 24 (wordV (wordOf (limR true n))) := Holds_.new _ _ _
  have hB0 := (Below.refl w.heap.size w).alloc (Nat.le_refl _) (.cells (wordV (wordOf (limR true n))) 24)
  rw [hw] at hW0 hB0
  have hlim : limR true n < 2 ^ 256 := by unfold limR; simp; omega
  go_enter Tryd.func31, Tryd.ntmps31
  go_wp2_with fail
  refine wp_abs (fun W => Holds_ W w.heap.size 24 (wordV (wordOf (limR true n))) ∧ Below w.heap.size w W) ⟨by rw [hw]; exact hW0, hB0⟩ ?_
  clear hW0 hB0 e1 e2 e3 hw
  rintro W ⟨hW, hB⟩
  obtain ⟨ML, hML⟩ : ∃ ML, wordOf (limR true n) = ML := ⟨_, rfl⟩
  rw [hML] at hW
  go_loopw [6, 7] (fun xv kv wr => ∃ j : Nat, j ≤ 41 ∧ kv = .int .i64 (40 - (j : Int)) ∧ xv = .int .i64 ((rootTo n true j : Nat) : Int) ∧ Holds_ wr w.heap.size 24 (wordV ML) ∧ Below w.heap.size w wr) (fun _ kv _ => (intOf kv + 1).toNat)
  case atStart => exact ⟨0, by omega, rfl, rfl, hW, hB⟩
  case round =>
    clear hW hB
    obtain ⟨j, hj, rfl, rfl, hW, hB⟩ := hrel
    by_cases hlt : j < 41
    · obtain ⟨k, hk⟩ : ∃ k, 40 - j = k := ⟨_, rfl⟩
      have hki : (40 : Int) - (j : Int) = (k : Int) := by omega
      rw [hki]
      have hle := rootTo_le n true j (by omega)
      have hstep : rootTo n true (j + 1) = if pwR true (rootTo n true j + 2 ^ k) ≤ limR true n then rootTo n true j + 2 ^ k else rootTo n true j := by rw [← hk]; rfl
      rw [show 41 - j = k + 1 by omega, Nat.pow_succ] at hle
      have hp1 : 1 ≤ 2 ^ k := Nat.one_le_two_pow
      have hpi : ((2 : Int) ^ k) = ((2 ^ k : Nat) : Int) := by simp
      generalize rootTo n true j = x at *
      obtain ⟨p, hp⟩ : ∃ p, 2 ^ k = p := ⟨_, rfl⟩
      rw [hp] at hle hstep hp1 hpi
      obtain ⟨y, hy⟩ : ∃ y, x + p = y := ⟨_, rfl⟩
      rw [hy] at hstep
      have k0 : (0 : Int) ≤ (k : Int) := by omega
      have k40 : (k : Int) ≤ 40 := by omega
      have pl : (p : Int) ≤ 2199023255552 := by omega
      have k1 : IntKind.i64.wrap (p : Int) = (p : Int) := IntWalk.i64_in _ (by omega)
      have k2 : (x : Int) + (p : Int) = (y : Int) := by omega
      have yl : (y : Int) < 2199023255552 := by omega
      have hyl : y < 2199023255552 := by omega
      clear hk hp hle
      go_wp2_with fail
      refine (ref_ofN y (by omega) _).mono ?_
      rintro e w1 ⟨rfl, hb1⟩
      go_wp2_with fail
      refine (ref_ofN y (by omega) _).mono ?_
      rintro e w2 ⟨rfl, hb2⟩
      go_wp2_with fail
      have hmul := fun W => mul_word y y W
      obtain ⟨M2, hM2⟩ : ∃ M2, wordOf (y * y) = M2 := ⟨_, rfl⟩
      rw [hM2] at hmul
      refine (hmul _).mono ?_
      rintro e w3 ⟨rfl, hb3⟩
      have hb13 := (hb1.trans (hb2.mono hb1.size)).trans (hb3.mono (hb1.trans (hb2.mono hb1.size)).size)
      have hW3 := hW.below hb13 hW.lt
      have hB3 := hB.trans (hb13.mono hB.size)
      have hs3 : w.heap.size < w3.heap.size := hW3.lt
      clear hW hB hb1 hb2 hb3 hb13
      go_wp2_with ((with_reducible show wpList _ _ _ (⟨none, _, _, _, _, _⟩ :: _) _ _); go_loud (refine wpList_storeRow rfl 24 _ _ rfl w3.heap.size (wordV M2) rfl rfl 24 _ (Holds_.new w3 24 _) (by rw [row_size]; exact info24) (by simp [row_size]) (row_one _ _ _) ?_))
      refine wp_abs (fun W => Holds_ W w3.heap.size 24 (wordV M2) ∧ Holds_ W w.heap.size 24 (wordV ML) ∧ Below w.heap.size w W) ⟨(Holds_.new w3 24 _).putRow _, (hW3.alloc _).farRow (by omega) _, below_putRow (hB3.alloc hB3.size _) hB3.size _⟩ ?_
      clear hW3 hB3
      rintro W ⟨hP, hW, hB⟩
      generalize w3.heap.size = gp at *
      go_wp2_with fail
      have hmul3 := fun W => mul_word (y * y) y W
      obtain ⟨M3, hM3⟩ : ∃ M3, wordOf (y * y * y) = M3 := ⟨_, rfl⟩
      rw [hM2, hM3] at hmul3
      refine wp_region_inv_tail 4 _ (fun V => Holds_ V gp 24 (wordV M2) ∧ Holds_ V w.heap.size 24 (wordV ML) ∧ Below w.heap.size w V) Keep (fsP [pv (.agg (wordV M2)), pv (.int .i64 (y : Int)), pv (.agg (wordV (wordOf y))), pv (.agg (wordV M3))]) (by kernel_rfl) rfl rfl (by kernel_rfl) (by kernel_rfl) (by kernel_rfl) ?c17 (fsP_st _ ?st) ?hop ?hfin
      case c17 => exact ⟨hP.drew, hW.drew, hB.drew⟩
      case st => intro q hq; simp only [List.mem_cons, List.not_mem_nil, or_false] at hq; rcases hq with rfl | rfl | rfl | rfl <;> exact st_pv _
      case hop =>
        rintro a V ⟨hP, hW, hB⟩ hold
        have e9 : a.eval (.tmp 9) = .pointer (some ⟨gp, 0, none⟩) := (hold 9 (by decide)).trans rfl
        have e8 : a.eval (.tmp 8) = .int .i64 (y : Int) := (hold 8 (by decide)).trans rfl
        refine ⟨?_, ?_, ?_, ?_, trivial⟩
        · intro hp
          exact does_loadRow _ gp _ (by rw [row_size]; exact info24) rfl e9 hP ⟨⟨hP, hW, hB⟩, Below.refl _ _, rfl⟩
        · intro hp
          exact does_move _ _ rfl e8 ⟨⟨hP, hW, hB⟩, Below.refl _ _, rfl⟩
        · intro hp
          have e33 := preds_get hp 1 _ rfl rfl
          change a.eval (.tmp 33) = .int .i64 (y : Int) at e33
          refine does_enter 12 #[.int .i64 (y : Int)] ?_ ((ref_ofN y (by omega) V).mono ?_)
          · simp only [execOp, resolve, invoke, List.map_toArray, List.map_cons, List.map_nil, e33]
            simp [go_sem, Act.eval, resolve, invoke]
          · rintro e V' ⟨rfl, hb⟩
            exact ⟨_, rfl, ⟨hP.below hb hP.lt, hW.below hb hW.lt, hB.trans (hb.mono hB.size)⟩, hb, rfl⟩
        · intro hp
          have e32 := preds_get hp 0 _ rfl rfl
          change a.eval (.tmp 32) = .agg (wordV M2) at e32
          have e34 := preds_get hp 2 _ rfl rfl
          change a.eval (.tmp 34) = .agg (wordV (wordOf y)) at e34
          refine does_enter 35 #[.agg (wordV M2), .agg (wordV (wordOf y))] ?_ ((hmul3 V).mono ?_)
          · simp only [execOp, resolve, invoke, List.map_toArray, List.map_cons, List.map_nil, e32, e34]
            simp [go_sem, Act.eval, resolve, invoke]
          · rintro e V' ⟨rfl, hb⟩
            exact ⟨_, rfl, ⟨hP.below hb hP.lt, hW.below hb hW.lt, hB.trans (hb.mono hB.size)⟩, hb, rfl⟩
      case hfin =>
      rintro z V ⟨hP, hW, hB⟩ hall
      obtain ⟨-, -, -, z35, -⟩ := hall
      change z 35 = .agg (wordV M3) at z35
      simp only [dsts, List.length_cons, List.length_nil, Nat.reduceAdd, List.take_succ_cons, List.take_zero, List.filterMap_cons, List.filterMap_nil, List.foldl_cons, List.foldl_nil, List.setIfInBounds_toArray, List.set_cons_succ, List.set_cons_zero]
      simp only [z35]
      have hpw : pwR true y = (y * y * y) := rfl
      rw [hpw] at hstep
      have hpl : (y * y * y) < 2 ^ 256 := Nat.lt_of_le_of_lt (Nat.mul_le_mul (Nat.mul_le_mul (show y ≤ 2199023255552 by omega) (show y ≤ 2199023255552 by omega)) (show y ≤ 2199023255552 by omega)) (by decide)
      have hP2 := hP.putRow (wordV M3)
      have hW2 := hW.farRow (b := gp) (by omega) (wordV M3)
      have hB2 := below_putRow hB (show w.heap.size ≤ gp by omega) (wordV M3)
      go_wp2_with (first
        | ((with_reducible show wpList _ _ _ (⟨none, _, _, _, _, _⟩ :: _) _ _); go_loud (refine wpList_storeRow rfl 24 _ _ rfl gp (wordV M3) rfl rfl 24 _ hP (by rw [row_size]; exact info24) (by simp [row_size]) (row_one _ _ _) ?_))
        | ((with_reducible show wpList _ _ _ (⟨some 36, _, _, _, _, _⟩ :: _) _ _); go_loud (refine wpList_loadRow rfl 24 _ rfl gp rfl 24 _ _ hP2 Tryd.underlying24 rfl (by rw [row_size]; exact info24) ?_))
        | ((with_reducible show wpList _ _ _ (⟨some 37, _, _, _, _, _⟩ :: _) _ _); go_loud (refine wpList_loadRow rfl 24 _ rfl w.heap.size rfl 24 _ _ hW2 Tryd.underlying24 rfl (by rw [row_size]; exact info24) ?_)))
      refine calls_abs' (fun W => Holds_ W w.heap.size 24 (wordV ML) ∧ Below w.heap.size w W) ⟨hW2, hB2⟩ ?_
      clear hW hB hP hW2 hB2 hP2
      rintro W ⟨hW, hB⟩
      have hcmp := fun W => cmp_any (y * y * y) (limR true n) hpl hlim W
      rw [hM3, hML] at hcmp
      refine (hcmp _).mono ?_
      rintro e w4 ⟨rfl, hb4⟩
      have hW4 := hW.below hb4 hW.lt
      have hB4 := hB.trans (hb4.mono hB.size)
      clear hW hB hb4
      by_cases hc : (y * y * y) ≤ limR true n
      · rw [if_pos hc] at hstep
        have hci : cmpI (y * y * y) (limR true n) ≤ 0 := by unfold cmpI; split <;> first | decide | (rw [if_neg (by omega)]; decide)
        generalize cmpI (y * y * y) (limR true n) = ci at *
        have HS := Lib.hid hstep
        clear hstep hc hpl hlim
        go_wp2_with fail
        go_roundw
        case rel => exact ⟨j + 1, by omega, by rw [← hki]; first | done | go_num, by rw [HS.out], hW4, hB4⟩
        case measure => simp [intOf] <;> omega
      · rw [if_neg hc] at hstep
        have hci : cmpI (y * y * y) (limR true n) = 1 := by unfold cmpI; rw [if_neg (by omega), if_pos (by omega)]
        rw [hci]
        clear hci hcmp
        have HS := Lib.hid hstep
        clear hstep hc hpl hlim
        go_wp2_with fail
        go_roundw
        case rel => exact ⟨j + 1, by omega, by rw [← hki]; first | done | go_num, by rw [HS.out], hW4, hB4⟩
        case measure => simp [intOf] <;> omega
    · obtain rfl : j = 41 := by omega
      have hm : rootN n true = rootTo n true 41 % 4294967296 := rfl
      have hle := rootTo_le n true 41 (by omega)
      generalize rootTo n true 41 = x at *
      have k1 : (x : Int).tmod 4294967296 = ((rootN n true : Nat) : Int) := by rw [hm]; rfl
      have k2 : (x : Int) % 4294967296 = ((rootN n true : Nat) : Int) := by rw [hm]; rfl
      clear hm
      go_wp2_with fail
      go_ret
      exact ⟨rfl, hB⟩
end Go.Proofs.YtkgbecgdappjoaaDoor
