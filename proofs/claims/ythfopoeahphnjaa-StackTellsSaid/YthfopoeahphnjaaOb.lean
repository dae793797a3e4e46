/- A word that is handed in: opened, and shut again. -/
import Derived.Test.YthfopoeahphnjaaOa
import Derived.LaidMore
import Derived.OpenShut
namespace Go.Proofs.Ythfopoeahphnjaa
open Go.ChangeShapes Go.WideShapes Go.ChangeAt Go.RowKit Go.Shelf
set_option linter.unusedVariables false
set_option linter.unusedSimpArgs false
theorem cells23 : Try.prog.cellsOf 23 = 1 := by kernel_rfl
theorem cells25 : Try.prog.cellsOf 25 = 4 := by kernel_rfl
/-- The word that four numbers are. -/
def wdF (f : Nat → Int) : Wd := ((f 0).toNat, (f 1).toNat, (f 2).toNat, (f 3).toNat)
theorem wdF_row (f : Nat → Int) (h : ∀ i, i < 4 → 0 ≤ f i ∧ f i ≤ 18446744073709551615) : row_ .u64 4 f = wdV (wdF f) := by
  rw [wdV_row]
  refine row_congr fun i hi => ?_
  match i, hi with
  | 0, _ => have := h 0 (by omega); simp [wdF]; omega
  | 1, _ => have := h 1 (by omega); simp [wdF]; omega
  | 2, _ => have := h 2 (by omega); simp [wdF]; omega
  | 3, _ => have := h 3 (by omega); simp [wdF]; omega
theorem open_word {H : Type} {enc : TypeId × Value → H} {w : World} {base : Nat} {sp : Nat → Bool} {held : Bool} {r : Reach} {b0 : Nat} {v : Value} {d : DataW H} {ps : List MemPlace}
    (hval : Value.okWide Try.prog w r b0 25 v) (hd : DataW.Trod enc Try.prog w base sp held 25 v d ps) :
    ∃ f : Nat → Int, (∀ i, i < 4 → 0 ≤ f i ∧ f i ≤ 18446744073709551615) ∧ v = .agg (wdV (wdF f)) ∧ d = .agg ((List.range 4).map fun i => .lit (.int .u64 (f i))) ∧ ps = [] := by
  obtain ⟨f, hf, rfl, rfl, hp⟩ := open_rowI Try.underlying25 Try.underlying23 cells23 cells25 hval hd
  have hb : ∀ i, i < 4 → 0 ≤ f i ∧ f i ≤ 18446744073709551615 := fun i hi => bounds_u64 (hf i hi)
  exact ⟨f, hb, by rw [wdF_row f hb], rfl, hp⟩
theorem shut_word {H : Type} {enc : TypeId × Value → H} {w : World} {base : Nat} {sp : Nat → Bool} {held : Bool} (f : Nat → Int) (h : ∀ i, i < 4 → 0 ≤ f i ∧ f i ≤ 18446744073709551615) :
    DataW.Trod enc Try.prog w base sp held 25 (.agg (wdV (wdF f))) (.agg ((List.range 4).map fun i => .lit (.int .u64 (f i)))) [] := by
  rw [← wdF_row f h]
  exact shut_rowI f Try.underlying25 Try.underlying23 cells23 cells25 (fun i hi => by have := h i hi; simp [Lit.wf, IntKind.min, IntKind.max, IntKind.signed, IntKind.bits]; omega)
end Go.Proofs.Ythfopoeahphnjaa
