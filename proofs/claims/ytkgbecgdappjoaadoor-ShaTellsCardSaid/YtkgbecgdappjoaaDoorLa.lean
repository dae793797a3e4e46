/- What the listed tables give the walks; the argument of a word, opened and shut. -/
import Derived.Test.YtkgbecgdappjoaaDoorRows
import Derived.Test.YtkgbecgdappjoaaDoorOs
import Derived.Test.YtkgbecgdappjoaaDoorWh
import Derived.ProofKit
import Derived.LaidMore
import Derived.OpenShut
import Derived.Stop.Joined
namespace Go.Proofs.YtkgbecgdappjoaaDoor
open Go.ChangeShapes Go.WideShapes Go.ChangeAt Go.WideMaps Go.WideElems Go.RowKit
set_option linter.unusedVariables false
set_option linter.unusedSimpArgs false

theorem own : ownKnob Tryd.prog.godebug = none := by kernel_rfl
theorem gStart : Tryd.prog.globalNamed "railhead/sha.start" = some 0 := by kernel_rfl
theorem tStart : (Tryd.prog.globals[0]?).map (·.type) = some 45 := by kernel_rfl
theorem gConsts : Tryd.prog.globalNamed "railhead/sha.constants" = some 1 := by kernel_rfl
theorem tConsts : (Tryd.prog.globals[1]?).map (·.type) = some 54 := by kernel_rfl
theorem cells44 : Tryd.prog.cellsOf 44 = 1 := by kernel_rfl
theorem cells22 : Tryd.prog.cellsOf 22 = 1 := by kernel_rfl
theorem cells24 : Tryd.prog.cellsOf 24 = 4 := by kernel_rfl
abbrev laidC {H : Type} : List (String × DataW H) := [("railhead/sha.start", Rows.laid_railhead_sha_start), ("railhead/sha.constants", Rows.laid_railhead_sha_constants)]

theorem door_met (os : Os) (args : Array Value) : laidMetH Tryd.prog [("railhead/sha.start", Rows.laid_railhead_sha_start), ("railhead/sha.constants", Rows.laid_railhead_sha_constants)] ((World.doorLaid Tryd.prog 400 os).forCall (fun _ _ => 0) ⟨#[], args, []⟩).memory :=
  laidMetH_of_parts3 (fuel := 8) (laidMet_of_run' 8 (by kernel_rfl) (by kernel_rfl)) (by kernel_rfl) (by kernel_rfl)

theorem reads_of {W : World} {name : String} {g t n e : Nat} {F : Nat → Nat} {cs : Array Value} {f : Nat} {p : List MemPlace} (hg : Tryd.prog.globalNamed name = some g) (ht : Tryd.prog.underlying t = some (.array n e)) (he : Tryd.prog.underlying e = some (.int .u32)) (hce : Tryd.prog.cellsOf e = 1)
    (hv : World.var? Tryd.prog W name = some cs) (hd : DataW.trod (fun _ => ()) Tryd.prog W 0 (fun _ => true) false f t cs.toList = some (.agg ((List.range n).map fun i => DataW.lit (.int .u32 ((F i : Nat) : Int))), p)) : Reads_ W g (row_ .u32 n (fun i => ((F i : Nat) : Int))) := by
  obtain ⟨xs, m1, hagg, hx1, hlen, hn3, hel⟩ := DataW.trod_array ht hd
  have hx : xs.map (·.1) = (List.range n).map fun i => DataW.lit (.int .u32 ((F i : Nat) : Int)) := by
    simp only [Prod.mk.injEq] at hx1
    exact (DataW.agg.inj hx1.1).symm
  intro j v hj
  have hjn : j < n := by
    have := (Array.getElem?_eq_some_iff.1 hj).1
    rwa [row_size] at this
  rw [row_get _ _ _ j hjn] at hj
  have hv' := Option.some.inj hj
  subst hv'
  have h4 := hel j (by omega)
  rw [hce, Nat.mul_one] at h4
  cases hy : xs[j]? with
  | none => rw [List.getElem?_eq_none_iff] at hy; omega
  | some y =>
    rw [hy] at h4
    obtain ⟨z, e1, e2, _⟩ := DataW.trod_int he h4
    have h5 : (xs.map (·.1))[j]? = some (.lit (.int .u32 z)) := by rw [List.getElem?_map, hy, e2]; rfl
    rw [hx] at h5
    have h6 : ((F j : Nat) : Int) = z := by simpa [hjn] using h5
    have h7 := World.var?_cell hg hv j
    have h8 : cs[j]? = some (.int .u32 z) := by
      have : ((cs.toList.drop j).take 1)[0]? = some (.int .u32 z) := by rw [e1]; rfl
      simpa using this
    rw [h7, h8, h6]

theorem of_laid {W : World} (h : laidMetH Tryd.prog [("railhead/sha.start", Rows.laid_railhead_sha_start), ("railhead/sha.constants", Rows.laid_railhead_sha_constants)] W) : Table W := by
  rw [MakeChecks.laidMetH_plain _ _ _ (by kernel_rfl)] at h
  obtain ⟨ps, ⟨g0, t0, cs0, f0, p0, q0, hg0, ht0, hv0, hd0, hr, _⟩, _, _⟩ := h
  obtain ⟨g1, t1, cs1, f1, p1, q1, hg1, ht1, hv1, hd1, _, _⟩ := hr
  obtain rfl := Option.some.inj (gStart.symm.trans hg0)
  obtain rfl := Option.some.inj (tStart.symm.trans ht0)
  obtain rfl := Option.some.inj (gConsts.symm.trans hg1)
  obtain rfl := Option.some.inj (tConsts.symm.trans ht1)
  refine ⟨?_, ?_⟩
  · have h3 : (Rows.laid_railhead_sha_start : DataW Unit) = .agg ((List.range 8).map fun i => DataW.lit (.int .u32 ((Sha.hF i : Nat) : Int))) := by kernel_rfl
    rw [h3] at hd0
    exact reads_of gStart Tryd.underlying45 Tryd.underlying44 cells44 hv0 hd0
  · have h3 : (Rows.laid_railhead_sha_constants : DataW Unit) = .agg ((List.range 64).map fun i => DataW.lit (.int .u32 ((Sha.cF i : Nat) : Int))) := by kernel_rfl
    rw [h3] at hd1
    exact reads_of gConsts Tryd.underlying54 Tryd.underlying44 cells44 hv1 hd1

/-- An argument of a word. -/
theorem open_word {H : Type} {enc : TypeId × Value → H} {w : World} {base : Nat} {sp : Nat → Bool} {held : Bool} {r : Reach} {b0 : Nat} {v : Value} {d : DataW H} {ps : List MemPlace}
    (hval : Value.okWide Tryd.prog w r b0 24 v) (hd : DataW.Trod enc Tryd.prog w base sp held 24 v d ps) :
    ∃ a : Nat → Nat, (∀ i, i < 4 → a i < 18446744073709551616) ∧ v = .agg (wordV a) ∧ d = .agg ((List.range 4).map fun i => .lit (.int .u64 ((a i : Nat) : Int))) ∧ ps = [] := by
  obtain ⟨f, hf, rfl, rfl, hp⟩ := open_rowI Tryd.underlying24 Tryd.underlying22 cells22 cells24 hval hd
  have hb : ∀ i, i < 4 → 0 ≤ f i ∧ f i ≤ 18446744073709551615 := fun i hi => bounds_u64 (hf i hi)
  have hn : ∀ i, i < 4 → f i = ((f i).toNat : Int) := fun i hi => by have := hb i hi; omega
  refine ⟨fun i => (f i).toNat, fun i hi => by have := hb i hi; show (f i).toNat < _; omega, ?_, ?_, hp⟩
  · rw [show row_ .u64 4 f = wordV (fun i => (f i).toNat) from row_congr hn]
  · congr 1
    apply List.map_congr_left
    intro i hi
    have := hn i (List.mem_range.1 hi)
    simp only
    rw [← this]
theorem shut_word {H : Type} {enc : TypeId × Value → H} {w : World} {base : Nat} {sp : Nat → Bool} {held : Bool} (a : Nat → Nat) (ha : ∀ i, i < 4 → a i < 18446744073709551616) :
    DataW.Trod enc Tryd.prog w base sp held 24 (.agg (wordV a)) (.agg ((List.range 4).map fun i => .lit (.int .u64 ((a i : Nat) : Int)))) [] :=
  shut_rowI (fun i => ((a i : Nat) : Int)) Tryd.underlying24 Tryd.underlying22 cells22 cells24 (fun i hi => by have := ha i hi; simp [Lit.wf, IntKind.min, IntKind.max, IntKind.signed, IntKind.bits]; omega)
end Go.Proofs.YtkgbecgdappjoaaDoor
