/- Cost and Run, by their walks. -/
import Derived.Test.YtkgbecgdappjoaaDoorWg
import Derived.Test.YtkgbecgdappjoaaDoorQu
namespace Go.Proofs.YtkgbecgdappjoaaDoor
open Go.RowKit Go.Shelf
set_option linter.unusedVariables false
set_option linter.unusedSimpArgs false

theorem info22 : (Tryd.prog.info? 22).map (·.size) = some 1 := by kernel_rfl
abbrev same4 (a b : Nat → Nat) : Bool := sameI 4 (fun i => (a i : Int)) (fun i => (b i : Int))
theorem run_equalIn_word (W : World) (a b : Nat → Nat) : (Op.equalIn 10000 24 (.agg (wordV a)) (.agg (wordV b))).run Tryd.prog W = .ok (same4 a b) W :=
  run_equalIn_row W 24 22 4 .u64 .u64 _ _ Tryd.underlying24 Tryd.underlying22 info22

def inB (many : Int) : Bool := decide (0 ≤ many) && decide (many ≤ 1048576)
def costB (f : Nat → Nat) (many : Int) : Bool := inB many && (same4 f (ofN 2) || same4 f (ofN 4))
def costI (f : Nat → Nat) (many : Int) : Int :=
  if inB many then (if same4 f (ofN 2) then 60 + 12 * ((many + 31) / 32) else if same4 f (ofN 4) then 15 + 3 * ((many + 31) / 32) else 0) else 0

set_option maxRecDepth 100000 in
set_option maxHeartbeats 2000000 in
theorem cost_any (f : Nat → Nat) (many : Int) (hm : -9223372036854775808 ≤ many) (hm2 : many ≤ 9223372036854775807) (w : World) :
    Calls Tryd.prog 13 #[.agg (wordV f), .int .i64 many] w fun e W' => e = .returned (.tuple #[.int .i64 (costI f many), .bool (costB f many)]) ∧ Below w.heap.size w W' := by
  have e2 : ∀ W, (Op.equalIn 10000 24 (.agg (wordV f)) (.agg (wordV (ofN 2)))).run Tryd.prog W = .ok (same4 f (ofN 2)) W := fun W => run_equalIn_word W _ _
  have e4 : ∀ W, (Op.equalIn 10000 24 (.agg (wordV f)) (.agg (wordV (ofN 4)))).run Tryd.prog W = .ok (same4 f (ofN 4)) W := fun W => run_equalIn_word W _ _
  have h2 := word_of 2 (by decide)
  have h4 := word_of 4 (by decide)
  unfold costI costB
  generalize same4 f (ofN 2) = r2 at *
  generalize same4 f (ofN 4) = r4 at *
  generalize ofN 2 = x2 at *
  generalize ofN 4 = x4 at *
  have hA := Holds_.new w 24 (wordV f)
  have hB : Below w.heap.size w (w.alloc (.cells (wordV f) 24)) := (Below.refl _ _).alloc (Nat.le_refl _) _
  by_cases hneg : many < 0
  · have : inB many = false := by unfold inB; simp; omega
    rw [this]
    go_enter Tryd.func13, Tryd.ntmps13
    go_wp2_with fail
    go_ret2
    exact ⟨rfl, hB⟩
  · by_cases hbig : many > 1048576
    · have : inB many = false := by unfold inB; simp; omega
      rw [this]
      have hbig' : 1048576 < many := hbig
      go_enter Tryd.func13, Tryd.ntmps13
      go_wp2_with fail
      go_ret2
      exact ⟨rfl, hB⟩
    · have : inB many = true := by unfold inB; simp; omega
      rw [this]
      have hb1 : ¬ 1048576 < many := hbig
      obtain ⟨n, hn⟩ : ∃ n, (many + 31) / 32 = n := ⟨_, rfl⟩
      rw [hn]
      have hn0 : 0 ≤ n := by omega
      have hn1 : n ≤ 40000 := by omega
      have i1 : (many + 31).tdiv 32 = n := by rw [Int.tdiv_eq_ediv_of_nonneg (by omega)]; exact hn
      have i3 : IntKind.i64.wrap (many + 31) = many + 31 := IntWalk.i64_in _ (by omega)
      have h2' : ∀ w, Calls Tryd.prog 22 #[.int .i64 2] w fun e W' => e = .returned (.agg (wordV x2)) ∧ Below w.heap.size w W' := h2
      have h4' : ∀ w, Calls Tryd.prog 22 #[.int .i64 4] w fun e W' => e = .returned (.agg (wordV x4)) ∧ Below w.heap.size w W' := h4
      clear h2 h4 this
      go_enter Tryd.func13, Tryd.ntmps13
      go_wp2_with (with_reducible show wpList _ _ _ (⟨some 16, _, _, _, _, _⟩ :: _) _ _; refine wpList_loadRow rfl 24 _ rfl w.heap.size rfl 24 _ _ hA Tryd.underlying24 rfl (by rw [row_size]; exact info24) ?_)
      refine (h2' _).mono ?_
      rintro e w1 ⟨rfl, hb1⟩
      have hB1 : Below w.heap.size w w1 := hB.trans (hb1.mono (by simp))
      cases r2 with
      | true =>
        go_wp2_with fail
        go_ret2
        exact ⟨rfl, hB1⟩
      | false =>
        go_wp2_with fail
        refine (h4' _).mono ?_
        rintro e w2 ⟨rfl, hb2⟩
        have hB2 : Below w.heap.size w w2 := hB1.trans (hb2.mono hB1.size)
        cases r4 with
        | true =>
          go_wp2_with fail
          go_ret2
          exact ⟨rfl, hB2⟩
        | false =>
          go_wp2_with fail
          go_ret2
          exact ⟨rfl, hB2⟩

/-- What Run tells: whether it goes, what comes out, what is left. -/
def goesB (f : Nat → Nat) (l : List UInt8) (gas : Int) : Bool := costB f l.length && decide (costI f l.length ≤ gas)
def runL (f : Nat → Nat) (l : List UInt8) (gas : Int) : List UInt8 := if goesB f l gas then (if same4 f (ofN 2) then Sha.sumL l else l) else []
def runI (f : Nat → Nat) (l : List UInt8) (gas : Int) : Int := if goesB f l gas then gas - costI f l.length else 0
theorem costI_bd (f : Nat → Nat) (many : Int) : 0 ≤ costI f many ∧ costI f many ≤ 1000000 := by
  unfold costI inB
  split
  · rename_i h
    simp only [Bool.and_eq_true, decide_eq_true_eq] at h
    split
    · omega
    · split
      · omega
      · omega
  · omega

/-- The text of a list of bytes. -/
def str (l : List UInt8) : ByteArray := ⟨l.toArray⟩
theorem str_size (l : List UInt8) : (str l).size = l.length := rfl
theorem str_data (l : List UInt8) : (str l).data.toList = l := by simp [str]
theorem str_of (s : ByteArray) : str s.data.toList = s := by
  apply ByteArray.ext
  simp [str]
theorem str_toList (l : List UInt8) : (str l).toList = l := by rw [ByteArray.toList_eq]; exact str_data l
theorem str_cut (l : List UInt8) (k : Nat) : (str l).extract 0 k = str (l.take k) := by
  apply ByteArray.ext
  simp [str]
theorem str_nil : (⟨#[]⟩ : ByteArray) = str [] := rfl
theorem sum_str (l : List UInt8) (hl : l.length ≤ 1048576) (w : World) (hT : Table w) :
    Calls Tryd.prog 10 #[.string (str l)] w fun e W' => e = .returned (.tuple #[.string (str (Sha.sumL l)), .int .i64 0]) ∧ Below w.heap.size w W' := by
  have h := sum_any (str l) hl w hT
  rw [str_data] at h
  exact h

set_option maxRecDepth 100000 in
set_option maxHeartbeats 4000000 in
theorem run_any (f : Nat → Nat) (l : List UInt8) (hl : l.length ≤ 9223372036854775807) (gas : Int) (hg : -9223372036854775808 ≤ gas) (hg2 : gas ≤ 9223372036854775807) (w : World) (hT : Table w) :
    Calls Tryd.prog 15 #[.agg (wordV f), .string (str l), .int .i64 gas] w fun e W' => e = .returned (.tuple #[.string (str (runL f l gas)), .int .i64 (runI f l gas), .bool (goesB f l gas)]) ∧ Below w.heap.size w W' := by
  have hcost := cost_any f l.length (by omega) (by omega)
  have hT0 := hT.pos
  have s1 := str_size l
  obtain ⟨cb0, cb1⟩ := costI_bd f l.length
  have hin : costB f l.length = true → l.length ≤ 1048576 := by
    unfold costB inB
    simp only [Bool.and_eq_true, decide_eq_true_eq]
    intro h
    omega
  have hsum := fun h w hT => sum_str l h w hT
  unfold runL runI goesB
  have hA := Holds_.new w 24 (wordV f)
  have hB : Below w.heap.size w (w.alloc (.cells (wordV f) 24)) := (Below.refl _ _).alloc (Nat.le_refl _) _
  have e2 : ∀ W, (Op.equalIn 10000 24 (.agg (wordV f)) (.agg (wordV (ofN 2)))).run Tryd.prog W = .ok (same4 f (ofN 2)) W := fun W => run_equalIn_word W _ _
  have h2 : ∀ w, Calls Tryd.prog 22 #[.int .i64 2] w fun e W' => e = .returned (.agg (wordV (ofN 2))) ∧ Below w.heap.size w W' := word_of 2 (by decide)
  generalize costI f l.length = c at *
  generalize costB f l.length = cb at *
  generalize same4 f (ofN 2) = r2 at *
  generalize ofN 2 = x2 at *
  generalize Sha.sumL l = out at *
  cases cb with
  | false =>
    go_enter Tryd.func15, Tryd.ntmps15
    go_wp2_with (with_reducible show wpList _ _ _ (⟨some 12, _, _, _, _, _⟩ :: _) _ _; refine wpList_loadRow rfl 24 _ rfl w.heap.size rfl 24 _ _ hA Tryd.underlying24 rfl (by rw [row_size]; exact info24) ?_)
    refine (hcost _).mono ?_
    rintro e w1 ⟨rfl, hb1⟩
    have hB1 : Below w.heap.size w w1 := hB.trans (hb1.mono (by simp))
    go_wp2_with fail
    go_ret3
    exact ⟨rfl, hB1⟩
  | true =>
    have hlen := hin rfl
    by_cases hgo : c ≤ gas
    · have hd : decide (c ≤ gas) = true := by simp [hgo]
      rw [hd]
      have hng : ¬ gas < c := by omega
      have hsub : IntKind.i64.wrap (gas - c) = gas - c := IntWalk.i64_in _ (by omega)
      go_enter Tryd.func15, Tryd.ntmps15
      go_wp2_with (with_reducible show wpList _ _ _ (⟨some 12, _, _, _, _, _⟩ :: _) _ _; refine wpList_loadRow rfl 24 _ rfl w.heap.size rfl 24 _ _ hA Tryd.underlying24 rfl (by rw [row_size]; exact info24) ?_)
      refine (hcost _).mono ?_
      rintro e w1 ⟨rfl, hb1⟩
      have hB1 : Below w.heap.size w w1 := hB.trans (hb1.mono (by simp))
      have hA1 := hA.below hb1 hA.lt
      clear hcost hb1
      go_wp2_with fail
      refine wp_region_quiet_class (fun W => Holds_ W w.heap.size 24 (wordV f) ∧ Below w.heap.size w W) (by kernel_rfl) (by kernel_rfl) ⟨hA1.drew, hB1.drew⟩ ?_
      have hcw : ∀ W : World, (Holds_ W w.heap.size 24 (wordV f) ∧ Below w.heap.size w W) → Calls Tryd.prog 22 #[.int .i64 2] W fun e W' => e = .returned (.agg (wordV x2)) ∧ (Holds_ W' w.heap.size 24 (wordV f) ∧ Below w.heap.size w W') := fun W hW =>
        (h2 W).mono fun e W' h => ⟨h.1, hW.1.below h.2 hW.1.lt, hW.2.trans (h.2.mono hW.2.size)⟩
      refine BigFrame.wpQuiet_want rfl (fun K hK => ?_)
      refine quiet_load_row 24 _ rfl w.heap.size rfl 24 (wordV f) _ (fun W hW => hW.1) Tryd.underlying24 rfl (by rw [row_size]; exact info24) ?_
      go_simp; refine hK _ ?_; clear hK K
      refine BigFrame.wpQuiet_want rfl (fun K hK => ?_)
      refine quiet_call 22 #[.int .i64 2] _ (fun W hW => by go_simp) hcw ?_
      go_simp; refine hK _ ?_; clear hK K
      refine BigFrame.wpQuiet_want rfl (fun K hK => ?_)
      refine quiet_run (.bool r2) (fun W hW => by go_simp) ?_
      go_simp; refine hK _ ?_; clear hK K
      refine wpQuiet_nil ?_
      rintro W2 ⟨hA2, hB2⟩
      cases r2 with
      | true =>
        go_wp2_with fail
        refine (hsum hlen _ (hT.below hB2 hT0)).mono ?_
        rintro e w3 ⟨rfl, hb3⟩
        have hB3 := hB2.trans (hb3.mono hB2.size)
        go_wp2_with fail
        go_ret3
        exact ⟨rfl, hB3⟩
      | false =>
        go_wp2_with fail
        go_ret3
        exact ⟨rfl, hB2⟩
    · have hd : decide (c ≤ gas) = false := by simp [hgo]
      rw [hd]
      have hng : gas < c := by omega
      go_enter Tryd.func15, Tryd.ntmps15
      go_wp2_with (with_reducible show wpList _ _ _ (⟨some 12, _, _, _, _, _⟩ :: _) _ _; refine wpList_loadRow rfl 24 _ rfl w.heap.size rfl 24 _ _ hA Tryd.underlying24 rfl (by rw [row_size]; exact info24) ?_)
      refine (hcost _).mono ?_
      rintro e w1 ⟨rfl, hb1⟩
      have hB1 : Below w.heap.size w w1 := hB.trans (hb1.mono (by simp))
      go_wp2_with fail
      go_ret3
      exact ⟨rfl, hB1⟩
end Go.Proofs.YtkgbecgdappjoaaDoor
