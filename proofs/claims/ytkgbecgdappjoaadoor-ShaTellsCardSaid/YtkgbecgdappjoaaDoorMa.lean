/- What each operation of a drawn region does, known by its operands: numbers of 32 bits, and lists of turns. -/
import Derived.Test.YtkgbecgdappjoaaDoorWd
import Derived.Test.YtkgbecgdappjoaaDoorIv
namespace Go.Proofs.YtkgbecgdappjoaaDoor
open Go.RowKit Go.Shelf
set_option linter.unusedVariables false
set_option linter.unusedSimpArgs false

/-! what is known of an operation's value -/
def pv (x : Value) : Value → World → Prop := fun v _ => v = x
def intsV (l : List Nat) : Array Value := (l.map fun (n : Nat) => Value.int .i64 (n : Int)).toArray
def psl (l : List Nat) : Value → World → Prop := fun v W => ∃ g, v = .slice (some ⟨g, 0, none⟩) l.length l.length ∧ Holds_ W g 3 (intsV l)
def fsP (fs : List (Value → World → Prop)) : Nat → Value → World → Prop := fun i => fs.getD i (fun _ _ => True)
abbrev Keep (W W' : World) : Prop := Below W.heap.size W W'
def Stable_ (p : Value → World → Prop) : Prop := ∀ v W W', Keep W W' → p v W → p v W'
theorem st_pv (x : Value) : Stable_ (pv x) := fun _ _ _ _ h => h
theorem st_psl (l : List Nat) : Stable_ (psl l) := fun v W W' hk ⟨g, e, h⟩ => ⟨g, e, h.below hk h.lt⟩
theorem fsP_st (fs : List (Value → World → Prop)) (h : ∀ p ∈ fs, Stable_ p) : ∀ i v W W', Keep W W' → fsP fs i v W → fsP fs i v W' := by
  intro i v W W' hk hp
  unfold fsP at *
  by_cases hi : i < fs.length
  · have e : fs.getD i (fun _ _ => True) = fs[i] := by simp [List.getD, hi]
    rw [e] at hp ⊢
    exact h _ (List.getElem_mem hi) _ _ _ hk hp
  · have e : fs.getD i (fun _ _ => True) = (fun _ _ => True) := by simp [List.getD, Nat.le_of_not_lt hi]
    rw [e]
    trivial
theorem preds_get {ops : Array Oper} {F : Nat → Value → World → Prop} {a : Act} {W : World} {o : Oper} (hp : Preds ops F a W o) (k : Nat) (o' : Oper) (ho : ops[k]? = some o') (hk : (o.after.toList.any fun e => e.on == k) = true) : F k (got o' a) W := by
  rw [Array.any_toList] at hk
  obtain ⟨e, he, hon⟩ := Array.any_eq_true'.1 hk
  have hon' : e.on = k := by simpa using hon
  subst hon'
  exact hp e he o' ho

section
variable {o : Oper} {a : Act} {W : World} {G : Value → World → Prop} {P : Program}
theorem does_run (r : Value) (h : (execOp a.eval o).run P W = .ok (.value r) W) (hG : G r W) : DoesV P o a W G := by
  unfold DoesV
  rw [h]
  exact hG
theorem does_runW (r : Value) (W' : World) (h : (execOp a.eval o).run P W = .ok (.value r) W') (hG : G r W') : DoesV P o a W G := by
  unfold DoesV
  rw [h]
  exact hG
theorem does_enter (f : FuncId) (args : Array Value) (h : (execOp a.eval o).run P W = .ok (.enter f args) W) (hc : Calls P f args W fun e W'' => ∃ v, e = .returned v ∧ G v W'') : DoesV P o a W G := by
  unfold DoesV
  rw [h]
  exact hc
theorem does_move (x : Operand) (r : Value) (ho : o.op = .move x) (ex : a.eval x = r) (hG : G r W) : DoesV P o a W G := does_run r (by simp [execOp, ho, ex]) hG
theorem does_assign (x : Operand) (r : Value) (ho : o.op = .assign x) (ex : a.eval x = r) (hG : G r W) : DoesV P o a W G := does_run r (by simp [execOp, ho, ex]) hG
end
theorem not_bits (A : Nat) (hA : A < 4294967296) : 4294967295 ^^^ A = Sha.not32 A := by
  apply Nat.eq_of_testBit_eq
  intro i
  have h1 := Nat.testBit_two_pow_sub_succ (x := A) (n := 32) hA i
  have h2 : Sha.not32 A = 2 ^ 32 - (A + 1) := by
    show 4294967295 - A = 4294967296 - (A + 1)
    omega
  rw [h2, h1, Nat.testBit_xor, show (4294967295 : Nat) = 2 ^ 32 - 1 from rfl, Nat.testBit_two_pow_sub_one]
  by_cases hi : i < 32
  · simp [hi]
  · have : A.testBit i = false := Nat.testBit_lt_two_pow (Nat.lt_of_lt_of_le hA (show 2 ^ 32 ≤ 2 ^ i from Nat.pow_le_pow_right (by decide) (by omega)))
    simp [hi, this]
section
variable {o : Oper} {a : Act} {W : World} {G : Value → World → Prop}
theorem does_add (x y : Operand) (A B : Nat) (ho : o.op = .binOp .add 44 x y 44) (ex : a.eval x = .int .u32 A) (ey : a.eval y = .int .u32 B) (hG : G (.int .u32 ((Sha.add A B : Nat) : Int)) W) : DoesV Tryd.prog o a W G := by
  have e : IntKind.u32.wrap ((A : Int) + (B : Int)) = ((Sha.add A B : Nat) : Int) := by rw [IntKind.wrap_u32]; unfold Sha.add; omega
  refine does_run _ ?_ hG
  rw [← e]
  simp only [execOp, ho, ex, ey]
  simp [eqGuard, go_sem]
theorem does_xor (x y : Operand) (A B : Nat) (hA : A < 4294967296) (hB : B < 4294967296) (ho : o.op = .binOp .xor 44 x y 44) (ex : a.eval x = .int .u32 A) (ey : a.eval y = .int .u32 B) (hG : G (.int .u32 ((A ^^^ B : Nat) : Int)) W) : DoesV Tryd.prog o a W G := by
  refine does_run _ ?_ hG
  rw [← u32_xor A B hA hB]
  simp only [execOp, ho, ex, ey]
  simp [eqGuard, go_sem]
theorem does_and (x y : Operand) (A B : Nat) (hA : A < 4294967296) (hB : B < 4294967296) (ho : o.op = .binOp .and 44 x y 44) (ex : a.eval x = .int .u32 A) (ey : a.eval y = .int .u32 B) (hG : G (.int .u32 ((A &&& B : Nat) : Int)) W) : DoesV Tryd.prog o a W G := by
  refine does_run _ ?_ hG
  rw [← u32_and A B hA hB]
  simp only [execOp, ho, ex, ey]
  simp [eqGuard, go_sem]
theorem does_not (x : Operand) (A : Nat) (hA : A < 4294967296) (ho : o.op = .unOp .xor 44 x) (ex : a.eval x = .int .u32 A) (hG : G (.int .u32 ((Sha.not32 A : Nat) : Int)) W) : DoesV Tryd.prog o a W G := by
  refine does_run _ ?_ hG
  rw [← not_bits A hA, ← u32_xor 4294967295 A (by decide) hA]
  simp only [execOp, ho, ex]
  simp [eqGuard, go_sem, Op.unary, IntKind.signed, IntKind.max, IntKind.bits]
theorem does_shr (x : Operand) (A n : Nat) (hn : n ≤ 31) (ho : o.op = .binOp .shr 44 x (.const (.int .u64 (n : Int))) 57) (ex : a.eval x = .int .u32 A) (hG : G (.int .u32 ((A / 2 ^ n : Nat) : Int)) W) : DoesV Tryd.prog o a W G := by
  have e : (A : Int) / 2 ^ n = ((A / 2 ^ n : Nat) : Int) := by simp
  refine does_run _ ?_ hG
  rw [← e]
  simp only [execOp, ho, ex]
  simp [eqGuard, go_sem, Act.eval]
theorem does_sub (x : Operand) (A n p : Nat) (hn : n ≤ 100) (hA : A ≤ 100) (hp : A - n = p) (hnA : n ≤ A) (ho : o.op = .binOp .sub 3 x (.const (.int .i64 (n : Int))) 3) (ex : a.eval x = .int .i64 A) (hG : G (.int .i64 (p : Int)) W) : DoesV Tryd.prog o a W G := by
  have e : IntKind.i64.wrap ((A : Int) - (n : Int)) = (p : Int) := (IntWalk.i64_in _ (by omega)).trans (by omega)
  refine does_run _ ?_ hG
  rw [← e]
  simp only [execOp, ho, ex]
  simp [eqGuard, go_sem, Act.eval]
theorem does_at64 (x y : Operand) (g i : Nat) (hi : i < 64) (ho : o.op = .indexAddr 54 x y) (ex : a.eval x = .pointer (some ⟨g, 0, none⟩)) (ey : a.eval y = .int .i64 i) (hG : G (.pointer (some ⟨g, i, none⟩)) W) : DoesV Tryd.prog o a W G := by
  refine does_run _ ?_ hG
  have h : (i : Int) < 64 := by omega
  simp only [execOp, ho, ex, ey]
  simp [go_sem, h]
theorem does_at8 (x y : Operand) (g i : Nat) (hi : i < 8) (ho : o.op = .indexAddr 45 x y) (ex : a.eval x = .pointer (some ⟨g, 0, none⟩)) (ey : a.eval y = .int .i64 i) (hG : G (.pointer (some ⟨g, i, none⟩)) W) : DoesV Tryd.prog o a W G := by
  refine does_run _ ?_ hG
  have h : (i : Int) < 8 := by omega
  simp only [execOp, ho, ex, ey]
  simp [go_sem, h]
theorem does_load (x : Operand) (g i : Nat) (r : Value) (ho : o.op = .load 44 x) (ex : a.eval x = .pointer (some ⟨g, i, none⟩)) (hc : W.cell? ⟨g, i, none⟩ = some r) (hG : G r W) : DoesV Tryd.prog o a W G := by
  refine does_run _ ?_ hG
  simp only [execOp, ho, ex]
  simp [go_sem, hc]
theorem does_two (p q : Nat) (ho : o.op = .buildSlice 36 2 #[(0, .const (.int .i64 (p : Int))), (1, .const (.int .i64 (q : Int)))]) (hG : ∀ v W', Keep W W' → psl [p, q] v W' → G v W') : DoesV Tryd.prog o a W G := by
  refine does_runW (.slice (some ⟨W.heap.size, 0, none⟩) 2 2) (W.alloc (.cells (intsV [p, q]) 3)) ?_ (hG _ _ ((Below.refl _ _).alloc (Nat.le_refl _) _) ⟨_, rfl, Holds_.new W 3 _⟩)
  simp [execOp, ho, go_sem, Act.eval, intsV]
theorem does_three (p q r : Nat) (ho : o.op = .buildSlice 36 3 #[(0, .const (.int .i64 (p : Int))), (1, .const (.int .i64 (q : Int))), (2, .const (.int .i64 (r : Int)))]) (hG : ∀ v W', Keep W W' → psl [p, q, r] v W' → G v W') : DoesV Tryd.prog o a W G := by
  refine does_runW (.slice (some ⟨W.heap.size, 0, none⟩) 3 3) (W.alloc (.cells (intsV [p, q, r]) 3)) ?_ (hG _ _ ((Below.refl _ _).alloc (Nat.le_refl _) _) ⟨_, rfl, Holds_.new W 3 _⟩)
  simp [execOp, ho, go_sem, Act.eval, intsV]
theorem does_turned (x y : Operand) (X : Nat) (l : List Nat) (hX : X < 4294967296) (hl : l.length ≤ 100) (hn : ∀ n ∈ l, 1 ≤ n ∧ n ≤ 31) (ho : o.op = .call { callee := .value (.func 25), args := #[x, y], argTypes := #[44, 36] }) (ex : a.eval x = .int .u32 X) (ey : psl l (a.eval y) W) (hG : G (.int .u32 ((Sha.turnL X l : Nat) : Int)) W) : DoesV Tryd.prog o a W G := by
  obtain ⟨g, eg, hg⟩ := ey
  refine does_enter 25 #[.int .u32 X, .slice (some ⟨g, 0, none⟩) l.length l.length] ?_ ?_
  · simp only [execOp, ho, resolve, invoke, List.map_toArray, List.map_cons, List.map_nil, ex, eg]
    simp [go_sem, Act.eval, resolve, invoke]
  · refine (turned_any X g l.length l hl hn W hX ?_).mono ?_
    · intro i hi
      rw [hg.cell]
      simp [intsV, List.getD, hi]
    · rintro e W' ⟨rfl, rfl⟩
      exact ⟨_, rfl, hG⟩
end
end Go.Proofs.YtkgbecgdappjoaaDoor
