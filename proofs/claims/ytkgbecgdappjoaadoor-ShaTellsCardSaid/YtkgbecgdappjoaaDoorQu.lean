/- Regions that draw their order, whose operations read and whose callees may make memory: one walk, over a class of worlds. -/
import Derived.Test.YtkgbecgdappjoaaDoorMem
import Derived.BigQuiet
import Derived.ChangeKeysEq
namespace Go.Proofs.YtkgbecgdappjoaaDoor
open Go.RowKit Go.Shelf
set_option linter.unusedVariables false
set_option linter.unusedSimpArgs false

section
variable {P : Program} {ops : Array Oper} {C : World → Prop} {Q : Act → Prop} {a : Act} {o : Oper} {rest : List Oper}
theorem quiet_load_row {K : Act → Prop} (ty : TypeId) (x : Operand) (ho : o.op = .load ty x) (g : Nat) (hx : a.eval x = .pointer (some ⟨g, 0, none⟩)) (t : TypeId) (cs : Array Value) (d : TypeDesc) (hg : ∀ W, C W → Holds_ W g t cs)
    (hu : P.underlying ty = some d) (hd : (match d with | .struct _ | .array _ _ => true | _ => false) = true) (hi : (P.info? ty).map (·.size) = some cs.size)
    (hk : K (a.put o.dst (.agg cs))) : o.quiet P a C K := by
  refine ⟨_, fun W hW => ?_, hk⟩
  unfold Oper.quietAt
  have h := run_loadVar_row W g t ty cs (0, 0) d (hg W hW) hu hd hi
  simp [execOp, ho, hx, Instr.loadAt, Instr.sureAddr, h, Result.andThen, Oper.quietUpon]
theorem quiet_run {K : Act → Prop} (v : Value) (h : ∀ W, C W → (execOp a.eval o).run P W = .ok (.value v) W) (hk : K (a.put o.dst v)) : o.quiet P a C K := by
  refine ⟨_, fun W hW => ?_, hk⟩
  unfold Oper.quietAt
  rw [h W hW]
  exact ⟨rfl, rfl⟩
theorem quiet_call {K : Act → Prop} (f : FuncId) (args : Array Value) (v : Value) (h : ∀ W, C W → (execOp a.eval o).run P W = .ok (.enter f args) W) (hc : ∀ W, C W → Calls P f args W fun e W' => e = .returned v ∧ C W') (hk : K (a.put o.dst v)) : o.quiet P a C K := by
  refine ⟨_, fun W hW => ?_, hk⟩
  unfold Oper.quietAt
  rw [h W hW]
  exact ⟨rfl, hc W hW⟩
theorem wp_region_quiet_class {id : Nat} {Q : Exit → Act → World → Prop} {a : Act} {w : World} {l : List Oper} (C : World → Prop) (hm : P.follows .mixedOrders = true) (hB : Region.lexB .any l.toArray = true) (hC : C w.drew)
    (h : wpQuiet P l.toArray C (fun a' => ∀ w', C w' → Q .normal a' w') l a) : (Code.region id l.toArray true).wp P Q a w :=
  wp_region_quiet (C := C) hm hB hC (by simpa using h)
end

/-! rows of numbers, compared -/
theorem run_part_row {P : Program} (w : World) (e : TypeId) (k kk : IntKind) (n : Nat) (f : Nat → Int) (i : Nat) (he : P.underlying e = some (.int kk)) (hi : i < n) : (part e (row_ k n f) i).run P w = .ok (.int k (f i)) w := by
  simp [part, isAgg, run_underlying he, row_get k n f i hi]
theorem run_eqItems_row {P : Program} (w : World) (d : Nat) (e : TypeId) (k kk : IntKind) (n : Nat) (f g : Nat → Int) (he : P.underlying e = some (.int kk)) : ∀ (l : List Nat), (∀ i ∈ l, i < n) →
    (Op.eqItems (d + 1) e 1 (row_ k n f) (row_ k n g) l).run P w = .ok (l.all fun i => f i == g i) w
  | [], _ => rfl
  | i :: l, h => by
    have hi := h i (by simp)
    have ih := run_eqItems_row w d e k kk n f g he l (fun j hj => h j (by simp [hj]))
    simp only [Op.eqItems, Sem.run_bind, Nat.mul_one, run_part_row w e k kk n _ i he hi, Result.andThen_ok, run_equalIn_int w d e k kk _ _ he, List.all_cons]
    cases hb : (f i == g i)
    · simp
    · simp only [Bool.not_true, Bool.false_eq_true, if_false, Bool.true_and]
      exact ih
/-- Two rows of numbers are the same. -/
def sameI (n : Nat) (f g : Nat → Int) : Bool := decide (∀ i, i < n → f i = g i)
theorem sameI_eq (n : Nat) (f g : Nat → Nat) : sameI n (fun i => (f i : Int)) (fun i => (g i : Int)) = true ↔ ∀ i, i < n → f i = g i := by
  unfold sameI
  rw [decide_eq_true_iff]
  exact ⟨fun h i hi => Int.ofNat.inj (h i hi), fun h i hi => congrArg _ (h i hi)⟩
theorem run_equalIn_row {P : Program} (w : World) (t e : TypeId) (n : Nat) (k kk : IntKind) (f g : Nat → Int) (ht : P.underlying t = some (.array n e)) (he : P.underlying e = some (.int kk)) (hs : (P.info? e).map (·.size) = some 1) :
    (Op.equalIn 10000 t (.agg (row_ k n f)) (.agg (row_ k n g))).run P w = .ok (sameI n f g) w := by
  cases hq : P.info? e with
  | none => rw [hq] at hs; cases hs
  | some i =>
    have hc : P.cellsOf e = 1 := by unfold Program.cellsOf; rw [hs]; rfl
    have hd : ((List.range n).all fun i => f i == g i) = sameI n f g := by
      unfold sameI
      rw [Bool.eq_iff_iff]
      simp
    rw [run_equalIn_array w 9999 _ _ ht hq, hc, run_eqItems_row w 9998 e k kk n f g he _ (fun i hi => List.mem_range.1 hi), hd]
end Go.Proofs.YtkgbecgdappjoaaDoor
