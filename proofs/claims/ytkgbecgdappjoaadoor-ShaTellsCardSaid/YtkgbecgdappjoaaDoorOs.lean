/- Opening and shutting arguments: a row of numbers, a text, a number; and what a law's row asks behind the call. -/
import Derived.Test.YtkgbecgdappjoaaDoorMem
import Derived.ProofKit
import Derived.OpenShut
import Derived.ChangeMaps5
import Derived.Below
namespace Go.Proofs.YtkgbecgdappjoaaDoor
open Go.ChangeShapes Go.WideShapes Go.ChangeAt Go.RowKit
set_option linter.unusedVariables false
set_option linter.unusedSimpArgs false

section
variable {H : Type} {enc : TypeId × Value → H} {P : Program} {w : World} {base : Nat} {sp : Nat → Bool} {held : Bool}

theorem mapM_some {A B : Type} (f : A → Option B) (g : A → B) : ∀ (l : List A), (∀ x ∈ l, f x = some (g x)) → l.mapM f = some (l.map g)
  | [], _ => rfl
  | x :: l, h => by
    rw [List.mapM_cons, h x (by simp), mapM_some f g l (fun y hy => h y (by simp [hy]))]
    rfl

theorem shut_rowI {t e : TypeId} {n : Nat} {k : IntKind} (f : Nat → Int) (ht : P.underlying t = some (.array n e)) (he : P.underlying e = some (.int k)) (hc : P.cellsOf e = 1) (hn : P.cellsOf t = n) (hf : ∀ i, i < n → (Lit.int k (f i)).wf = true) :
    DataW.Trod enc P w base sp held t (.agg (row_ k n f)) (.agg ((List.range n).map fun i => .lit (.int k (f i)))) [] := by
  refine ⟨2, ?_⟩
  have hlen : (row_ k n f).toList.length = n := by simpa using row_size k n f
  have hstep : ∀ i ∈ List.range n, DataW.trod enc P w base sp held 1 e (((Value.agg (row_ k n f)).cells.toList.drop (i * P.cellsOf e)).take (P.cellsOf e)) = some ((fun i => (DataW.lit (.int k (f i)), ([] : List MemPlace))) i) := by
    intro i hi
    have hi' := List.mem_range.1 hi
    have hd : ((row_ k n f).toList.drop i).take 1 = [.int k (f i)] := by
      apply List.ext_getElem?
      intro j
      rcases j with _ | j
      · have := row_get k n f i hi'
        simpa using this
      · simp; omega
    simp only [hc, Nat.mul_one, Value.cells]
    rw [hd]
    simp [DataW.trod, he, hf i hi']
  unfold DataW.trod
  simp only [ht]
  rw [if_pos (by rw [hn]; exact hlen), mapM_some _ _ _ hstep]
  simp [Function.comp_def, List.flatMap_eq_nil_iff]

theorem open_rowI {t e : TypeId} {n : Nat} {k : IntKind} {r : Reach} {b0 : Nat} {v : Value} {d : DataW H} {ps : List MemPlace} (ht : P.underlying t = some (.array n e)) (he : P.underlying e = some (.int k)) (hc : P.cellsOf e = 1) (hn : P.cellsOf t = n)
    (hval : Value.okWide P w r b0 t v) (hd : DataW.Trod enc P w base sp held t v d ps) :
    ∃ f : Nat → Int, (∀ i, i < n → (Lit.int k (f i)).wf = true) ∧ v = .agg (row_ k n f) ∧ d = .agg ((List.range n).map fun i => .lit (.int k (f i))) ∧ ps = [] := by
  simp only [Value.okWide, ht] at hval
  obtain ⟨cs, rfl, hs, _⟩ := hval
  rw [hn] at hs
  obtain ⟨fuel, hf⟩ := hd
  obtain ⟨xs, m, rfl, hx, _, hxl, hel⟩ := DataW.trod_array ht hf
  have hpt : ∀ i, i < n → ∃ z : Int, cs[i]? = some (.int k z) ∧ (Lit.int k z).wf = true ∧ xs[i]? = some (DataW.lit (.int k z), []) := by
    intro i hi
    have h := hel i hi
    simp only [hc, Nat.mul_one, Value.cells] at h
    cases hy : xs[i]? with
    | none => rw [List.getElem?_eq_none_iff] at hy; omega
    | some y =>
      rw [hy] at h
      obtain ⟨z, e1, e2, wz⟩ := DataW.trod_int he h
      have e3 : cs[i]? = some (.int k z) := by
        have : ((cs.toList.drop i).take 1)[0]? = some (.int k z) := by rw [e1]; rfl
        simpa using this
      exact ⟨z, e3, wz, by rw [e2]⟩
  obtain ⟨f, hf⟩ : ∃ f : Nat → Int, ∀ i, i < n → cs[i]? = some (.int k (f i)) ∧ (Lit.int k (f i)).wf = true ∧ xs[i]? = some (DataW.lit (.int k (f i)), []) :=
    ⟨fun i => if h : i < n then (hpt i h).choose else 0, fun i hi => by simp only [hi, dite_true]; exact (hpt i hi).choose_spec⟩
  have hxs : xs = (List.range n).map fun i => (DataW.lit (.int k (f i)), []) := by
    apply List.ext_getElem?
    intro i
    by_cases hi : i < n
    · rw [(hf i hi).2.2]; simp [hi]
    · rw [List.getElem?_eq_none (by omega), List.getElem?_eq_none (by simp; omega)]
  simp only [Prod.mk.injEq] at hx
  refine ⟨f, fun i hi => (hf i hi).2.1, ?_, ?_, ?_⟩
  · rw [row_of k n cs f hs (fun i hi => (hf i hi).1)]
  · rw [hx.1, hxs]; simp [Function.comp_def]
  · rw [hx.2, hxs]; simp [List.flatMap_eq_nil_iff]

/-- What a law's row asks behind the call, where nothing in memory was handed in, and what lay there before is as it was. -/
theorem law_post {f : Func} {s : ChangeSpec} {fresh handsOn : Bool} {W W' : World} {args : Array Value} {v : Value} {ds : List (DataW H)}
    (hW : DataW.Whole enc P f.params.toList s.vars false W args.toList ds [] []) (hv : s.vars = []) (hv' : (s.fn H (ds ++ [])).vars = [])
    (hres : ∀ b : Nat, DataW.TrodAll enc P W' b (fun _ => false) handsOn f.resultTypes.toList (v.resultList f.resultTypes.size) (s.fn H (ds ++ [])).results [])
    (hargs : DataW.TrodAll enc P W' 0 (fun b => decide (b < W.heap.size)) true f.params.toList args.toList (s.fn H (ds ++ [])).args [])
    (hb : Below W.heap.size W W') : s.post enc P f false fresh handsOn false W args v W' :=
  ⟨ds, [], [], [], [], [], hW, hres _, hargs, by rw [hv, hv']; rfl, hb.frame _, fun h => by cases h⟩
end
end Go.Proofs.YtkgbecgdappjoaaDoor
