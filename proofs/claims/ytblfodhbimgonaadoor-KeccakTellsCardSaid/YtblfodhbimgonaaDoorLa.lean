/- What the listed table gives the walks; the argument of lanes, opened and shut. -/
import Derived.Test.YtblfodhbimgonaaDoorRows
import Derived.Test.YtblfodhbimgonaaDoorOs
import Derived.Test.YtblfodhbimgonaaDoorWf
import Derived.ProofKit
import Derived.LaidMore
import Derived.OpenShut
import Derived.Stop.Joined
namespace Go.Proofs.YtblfodhbimgonaaDoor
open Go.ChangeShapes Go.WideShapes Go.ChangeAt Go.WideMaps Go.WideElems Go.RowKit
set_option linter.unusedVariables false
set_option linter.unusedSimpArgs false

theorem own : ownKnob Tryd.prog.godebug = none := by kernel_rfl
theorem gConsts : Tryd.prog.globalNamed "railhead/keccak.constants" = some 0 := by kernel_rfl
theorem tConsts : (Tryd.prog.globals[0]?).map (·.type) = some 40 := by kernel_rfl
theorem cells22 : Tryd.prog.cellsOf 22 = 1 := by kernel_rfl
theorem cells24 : Tryd.prog.cellsOf 24 = 25 := by kernel_rfl
abbrev laidC {H : Type} : List (String × DataW H) := [("railhead/keccak.constants", Rows.laid_railhead_keccak_constants)]

theorem door_met (os : Os) (args : Array Value) : laidMetH Tryd.prog [("railhead/keccak.constants", Rows.laid_railhead_keccak_constants)] ((World.doorLaid Tryd.prog 400 os).forCall (fun _ _ => 0) ⟨#[], args, []⟩).memory :=
  laidMetH_of_parts3 (fuel := 8) (laidMet_of_run' 8 (by kernel_rfl) (by kernel_rfl)) (by kernel_rfl) (by kernel_rfl)

theorem of_laid {W : World} (h : laidMetH Tryd.prog [("railhead/keccak.constants", Rows.laid_railhead_keccak_constants)] W) : Table W := by
  rw [MakeChecks.laidMetH_plain _ _ _ (by kernel_rfl)] at h
  obtain ⟨ps, ⟨g0, t0, cs0, f0, p0, q0, hg0, ht0, hv0, hd0, _, _⟩, _, _⟩ := h
  obtain rfl := Option.some.inj (gConsts.symm.trans hg0)
  obtain rfl := Option.some.inj (tConsts.symm.trans ht0)
  obtain ⟨xs, m1, rfl, hx1, hlen, hn3, hel⟩ := DataW.trod_array Tryd.underlying40 hd0
  have hx : xs.map (·.1) = (List.range 24).map fun i => DataW.lit (.int .u64 ((Kec.consts.getD i 0 : Nat) : Int)) := by
    simp only [Prod.mk.injEq] at hx1
    have h2 := hx1.1
    have h3 : (Rows.laid_railhead_keccak_constants : DataW Unit) = .agg ((List.range 24).map fun i => DataW.lit (.int .u64 ((Kec.consts.getD i 0 : Nat) : Int))) := by kernel_rfl
    exact (DataW.agg.inj (h3.symm.trans h2)).symm
  intro j v hj
  have hj24 : j < 24 := by
    have := (Array.getElem?_eq_some_iff.1 hj).1
    rwa [row_size] at this
  rw [row_get _ _ _ j hj24] at hj
  have hv := Option.some.inj hj
  subst hv
  have h4 := hel j hj24
  rw [cells22, Nat.mul_one] at h4
  cases hy : xs[j]? with
  | none => rw [List.getElem?_eq_none_iff] at hy; omega
  | some y =>
    rw [hy] at h4
    obtain ⟨z, e1, e2, _⟩ := DataW.trod_int Tryd.underlying22 h4
    have h5 : (xs.map (·.1))[j]? = some (.lit (.int .u64 z)) := by rw [List.getElem?_map, hy, e2]; rfl
    rw [hx] at h5
    have h6 : ((Kec.consts.getD j 0 : Nat) : Int) = z := by simpa [hj24] using h5
    have h7 := World.var?_cell hg0 hv0 j
    have h8 : cs0[j]? = some (.int .u64 z) := by
      have : ((cs0.toList.drop j).take 1)[0]? = some (.int .u64 z) := by rw [e1]; rfl
      simpa using this
    rw [h7, h8, h6]

/-- An argument of lanes. -/
theorem open_lanes {H : Type} {enc : TypeId × Value → H} {w : World} {base : Nat} {sp : Nat → Bool} {held : Bool} {r : Reach} {b0 : Nat} {v : Value} {d : DataW H} {ps : List MemPlace}
    (hval : Value.okWide Tryd.prog w r b0 24 v) (hd : DataW.Trod enc Tryd.prog w base sp held 24 v d ps) :
    ∃ a : Nat → Nat, Kec.Ok a ∧ v = .agg (lanesV a) ∧ d = .agg ((List.range 25).map fun i => .lit (.int .u64 ((a i : Nat) : Int))) ∧ ps = [] := by
  obtain ⟨f, hf, rfl, rfl, hp⟩ := open_rowI Tryd.underlying24 Tryd.underlying22 cells22 cells24 hval hd
  have hb : ∀ i, i < 25 → 0 ≤ f i ∧ f i ≤ 18446744073709551615 := fun i hi => bounds_u64 (hf i hi)
  have hn : ∀ i, i < 25 → f i = ((f i).toNat : Int) := fun i hi => by have := hb i hi; omega
  refine ⟨fun i => (f i).toNat, fun i hi => by have := hb i hi; show (f i).toNat < 2 ^ 64; omega, ?_, ?_, hp⟩
  · rw [show row_ .u64 25 f = lanesV (fun i => (f i).toNat) from row_congr hn]
  · congr 1
    apply List.map_congr_left
    intro i hi
    have := hn i (List.mem_range.1 hi)
    simp only
    rw [← this]
theorem shut_lanes {H : Type} {enc : TypeId × Value → H} {w : World} {base : Nat} {sp : Nat → Bool} {held : Bool} (a : Nat → Nat) (ha : Kec.Ok a) :
    DataW.Trod enc Tryd.prog w base sp held 24 (.agg (lanesV a)) (.agg ((List.range 25).map fun i => .lit (.int .u64 ((a i : Nat) : Int)))) [] :=
  shut_rowI (fun i => ((a i : Nat) : Int)) Tryd.underlying24 Tryd.underlying22 cells22 cells24 (fun i hi => by have := ha i hi; simp [Lit.wf, IntKind.min, IntKind.max, IntKind.signed, IntKind.bits]; omega)
end Go.Proofs.YtblfodhbimgonaaDoor
