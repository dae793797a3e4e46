/- Slices of numbers that are handed in: opened, and as they were behind the call. -/
import Derived.Test.YthfopoeahphnjaaSh
import Derived.Test.YthfopoeahphnjaaOs
import Derived.ProofKit
namespace Go.Proofs.Ythfopoeahphnjaa
open Go.ChangeShapes Go.WideShapes Go.ChangeAt Go.RowKit Go.Shelf
set_option linter.unusedVariables false
set_option linter.unusedSimpArgs false
section
variable {H : Type} {enc : TypeId × Value → H}
theorem cells3 : Try.prog.cellsOf 3 = 1 := by kernel_rfl
theorem laidAll : laidOutB Try.prog = true := by kernel_rfl
theorem opened_ints {W : World} {r : Reach} {b0 : Nat} {v : Value} {d : DataW H} {ps : List MemPlace} (hval : Value.okWide Try.prog W r b0 22 v) (h : DataW.Trod enc Try.prog W 0 (fun _ => true) true 22 v d ps) :
    ∃ l, Is W v l := by
  obtain ⟨a0, len0, cap0, rfl⟩ := okWide_slice Try.underlying22 hval
  obtain ⟨fuel, hf⟩ := h
  rcases open_ints Try.underlying22 Try.underlying3 cells3 hf with ⟨hc, hx⟩ | ⟨a, len, cap, zs, hc, hb, hl, hm, hz, hx, hcell, hw⟩
  · simp [Value.cells] at hc
    obtain ⟨rfl, rfl, rfl⟩ := hc
    exact ⟨[], none, 0, rfl, by simp, by simp, by simp⟩
  · simp [Value.cells] at hc
    obtain ⟨rfl, rfl, rfl⟩ := hc
    rw [if_pos rfl] at hz
    have hlz : (zs.take len0).length = len0 := by rw [List.length_take, hz]; omega
    refine ⟨zs.take len0, some a, cap0, by rw [hlz], by rw [hlz]; unfold maxLen at hm; omega, fun x hx => bounds_i64 (hw x (List.mem_of_mem_take hx)), fun i x hxi => ?_⟩
    have hi : i < len0 := by have := (List.getElem?_eq_some_iff.1 hxi).1; omega
    obtain ⟨b, off, rfl, hat⟩ := ints_at hcell (by omega)
    have hzi : zs[i]? = some x := by rw [← hxi, List.getElem?_take, if_pos hi]
    have hci := hat i (by omega)
    rw [show zs.getD i 0 = x from by simp [List.getD, hzi]] at hci
    exact ⟨b, off, rfl, by
      have h := hci
      unfold World.cell? at h
      by_cases hb : b < W.heap.size
      · exact hb
      · simp [show W.heap[b]? = none by simp; omega] at h, hci⟩
/-- What a law's row asks behind the call, where what was handed in lies below. -/
theorem law_post2 {P : Program} {f : Func} {s : ChangeSpec} {fresh handsOn : Bool} {W W' : World} {args : Array Value} {v : Value} {ds : List (DataW H)} {ps : List MemPlace}
    (hW : DataW.Whole enc P f.params.toList s.vars false W args.toList ds [] ps) (hv : s.vars = []) (hv' : (s.fn H (ds ++ [])).vars = [])
    (hres : ∀ b : Nat, DataW.TrodAll enc P W' b (fun _ => false) handsOn f.resultTypes.toList (v.resultList f.resultTypes.size) (s.fn H (ds ++ [])).results [])
    (hargs : DataW.TrodAll enc P W' 0 (fun b => decide (b < W.heap.size)) true f.params.toList args.toList (s.fn H (ds ++ [])).args ps)
    (hb : Below W.heap.size W W') : s.post enc P f false fresh handsOn false W args v W' :=
  ⟨ds, [], ps, [], ps, [], hW, hres _, hargs, by rw [hv, hv']; rfl, hb.frame _, fun h => by cases h⟩
end
end Go.Proofs.Ythfopoeahphnjaa
