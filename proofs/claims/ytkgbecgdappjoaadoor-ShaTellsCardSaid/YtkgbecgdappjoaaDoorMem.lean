/- Words for memory that the walks of this seat share: a block that is known whole; a row of numbers as a function; a walk that goes on from any world of which some facts hold. -/
import Derived.RangeFuncNested
import Derived.RangeFuncBound
import Derived.RangeFuncCalls
import Derived.RangeFuncLeaves
import Derived.Shelf.Abstract
import Derived.Shelf.RegionOpen
import Derived.WalkKit
import Derived.WalkLawsBesides
import Derived.WalkSpells
import Derived.OwnWalkIn
import Derived.TacticsInMore
import Derived.LoopNIn
import Derived.LoopIn
import Derived.Lib.Hide
import Derived.Deep.QuietTactic
import Derived.BigQuiet
import Derived.StillTailTactics
import Derived.Deep.RegionWith
import Derived.RegionIn
import Derived.Stop.RegionWithIn
import Derived.Maps.AppendAt
namespace Go.Proofs.YtkgbecgdappjoaaDoor
open Go.RowKit Go.Shelf
set_option linter.unusedVariables false
set_option linter.unusedSimpArgs false

theorem ret_int {k : IntKind} {a b : Int} (h : a = b) : Ending.returned (.int k a) = .returned (.int k b) := by rw [h]

theorem same_of {P : Program} {f : FuncId} {args : Array Value} {w : World} {v : Value} (h : Calls P f args w fun e w' => e = .returned v ∧ w = w') : Calls P f args w fun e w' => e = .returned v ∧ w' = w :=
  h.mono fun _ _ ⟨he, hw⟩ => ⟨he, hw.symm⟩

/-- Block g holds just the cells cs of type t, and none is frozen. -/
def Holds_ (w : World) (g : Nat) (t : TypeId) (cs : Array Value) : Prop := w.heap[g]? = some (.cells cs t (0, 0))
section
variable {w w' : World} {g : Nat} {t : TypeId} {cs : Array Value}
theorem Holds_.lt (h : Holds_ w g t cs) : g < w.heap.size := (Array.getElem?_eq_some_iff.1 h).1
theorem Holds_.cell (h : Holds_ w g t cs) (i : Nat) : w.cell? ⟨g, i, none⟩ = cs[i]? := cell_of_row w g i cs t (0, 0) h
theorem Holds_.free (h : Holds_ w g t cs) (i : Nat) : w.frozen? ⟨g, i, none⟩ = false := frozen_of_row w g i cs t h
theorem Holds_.new (w : World) (t : TypeId) (cs : Array Value) : Holds_ (w.alloc (.cells cs t)) w.heap.size t cs := heap_alloc_new w _
theorem Holds_.drew (h : Holds_ w g t cs) : Holds_ w.drew g t cs := h
theorem Holds_.drewN (h : Holds_ w g t cs) (n : Nat) : Holds_ (w.drewN n) g t cs := h
theorem Holds_.alloc (h : Holds_ w g t cs) (o : Obj) : Holds_ (w.alloc o) g t cs := (heap_alloc_old w o g h.lt).trans h
theorem Holds_.put (h : Holds_ w g t cs) (i : Nat) (u : Value) : Holds_ (w.setCell ⟨g, i, none⟩ u) g t (cs.setIfInBounds i u) := heap_setCell_same w g i cs t u h
theorem Holds_.putRow (h : Holds_ w g t cs) (ds : Array Value) : Holds_ (w.setRow g ds) g t ds := setRow_heap w g cs ds t _ h
theorem Holds_.far (h : Holds_ w g t cs) {p : Addr} (hp : g ≠ p.block) (u : Value) : Holds_ (w.setCell p u) g t cs := (heap_setCell_other w p g u hp).trans h
theorem Holds_.farRow (h : Holds_ w g t cs) {b : Nat} (hp : g ≠ b) (ds : Array Value) : Holds_ (w.setRow b ds) g t cs := (setRow_other w b g ds hp).trans h
theorem Holds_.below {B : Nat} (h : Holds_ w g t cs) (hb : Below B w w') (hg : g < B) : Holds_ w' g t cs := (hb.block g hg).trans h
theorem Holds_.grown {row : Option Nat} (h : Holds_ w g t cs) (hb : w.grownBy w' row) (hg : some g ≠ row) : Holds_ w' g t cs := (hb.block g h.lt hg).trans h
end
theorem below_putRow {B g : Nat} {w w' : World} (h : Below B w w') (hg : B ≤ g) (cs : Array Value) : Below B w (w'.setRow g cs) :=
  ⟨h.os, h.tape, h.output, by simpa using h.size, fun i hi => (setRow_other w' g i cs (by omega)).trans (h.block i hi)⟩
theorem below_draws {B : Nat} {a w : World} (h : Below B a w) (n : Nat) : Below B a (w.drewN n) := ⟨h.os, h.tape, h.output, h.size, h.block⟩
theorem size_setCell (w : World) (p : Addr) (u : Value) : (w.setCell p u).heap.size = w.heap.size := by simp [World.setCell]

theorem Holds_.kept {w w' : World} {g : Nat} {t : TypeId} {cs : Array Value} {row : Option Nat} (h : Holds_ w g t cs) (hg : w.grownBy w' row) (hrow : ∀ r, row = some r → ∃ o : Obj, w.heap[r]? = some o ∧ o.isCells = false) : Holds_ w' g t cs :=
  h.grown hg (fun e => by
    obtain ⟨o, ho, hc⟩ := hrow g e.symm
    unfold Holds_ at h
    rw [h] at ho
    cases ho
    cases hc)
theorem Holds_.own {β : Type} (g : Nat) (t : TypeId) (f : β → Array Value) : Own (fun s W => Holds_ W g t (f s)) := fun s A B row hs hg hr => hs.kept hg hr

theorem ownFrom_at {β : Type} {B D : Nat} {o : Obj} (h : D < B) (hB : ∀ W : World, W.heap[D]? = some o → D < W.heap.size) : OwnFrom B (fun (_ : β) W => W.heap[D]? = some o) :=
  fun _ W _ row hs hg hr => (hg.block D (hB W hs) (fun e => by have := (hr D e.symm).1; omega)).trans hs
theorem ownFrom_size {β : Type} (B n : Nat) : OwnFrom B (fun (_ : β) W => n ≤ W.heap.size) := fun _ W W' row hs hg _ => Nat.le_trans hs hg.size
theorem lt_of_heap {W : World} {D : Nat} {o : Obj} (h : W.heap[D]? = some o) : D < W.heap.size := (Array.getElem?_eq_some_iff.1 h).1

/-- A walk goes on from any world of which R holds. -/
theorem wp_abs {P : Program} {c : Code} {Q : Exit → Act → World → Prop} {a : Act} {w : World} (R : World → Prop) (h0 : R w) (h : ∀ W, R W → c.wp P Q a W) : c.wp P Q a w := h w h0
theorem wpIn_abs {F : Fence} {n : Nat} {P : Program} {c : Code} {Q : Exit → Act → World → Prop} {a : Act} {w : World} (R : World → Prop) (h0 : R w) (h : ∀ W, R W → c.wpIn F n P Q a W) : c.wpIn F n P Q a w := h w h0
theorem wpList_abs {P : Program} {ops : Array Oper} {l : List Oper} {Q : Exit → Act → World → Prop} {a : Act} {w : World} (R : World → Prop) (h0 : R w) (h : ∀ W, R W → wpList P ops Q l a W) : wpList P ops Q l a w := h w h0
theorem wpListIn_abs {F : Fence} {n : Nat} {P : Program} {ops : Array Oper} {l : List Oper} {Q : Exit → Act → World → Prop} {a : Act} {w : World} (R : World → Prop) (h0 : R w) (h : ∀ W, R W → wpListIn F n P ops Q l a W) : wpListIn F n P ops Q l a w := h w h0

/-- A whole row loaded, and stored, inside a fence. -/
theorem wpListIn_loadRow {F : Fence} {n : Nat} {P : Program} {ops : Array Oper} {rest : List Oper} {o : Oper} {a : Act} {w : World} {Q : Exit → Act → World → Prop} (hgd : o.guard = none) (ty : TypeId) (x : Operand) (ho : o.op = .load ty x)
    (g : Nat) (hx : a.eval x = .pointer (some ⟨g, 0, none⟩)) (t : TypeId) (cs : Array Value) (d : TypeDesc) (hg : Holds_ w g t cs)
    (hu : P.underlying ty = some d) (hd : (match d with | .struct _ | .array _ _ => true | _ => false) = true) (hi : (P.info? ty).map (·.size) = some cs.size)
    (h : wpListIn F n P ops Q rest (a.put o.dst (.agg cs)) w) : wpListIn F n P ops Q (o :: rest) a w := by
  refine wpListIn_plain hgd fun K hK => ?_
  unfold Oper.wpIn
  refine ⟨?_, ?_⟩
  · simp [Oper.about, ho]
  · rw [Oper.semAt_plain F _ _ (by rw [ho]; intro c hc'; cases hc')]
    simp [execOp, ho, hx, Instr.loadAt, Instr.sureAddr, run_loadVar_row w g t ty cs (0, 0) d hg hu hd hi, Result.andThen]
    exact hK _ _ h
theorem wpListIn_storeRow {F : Fence} {n : Nat} {P : Program} {ops : Array Oper} {rest : List Oper} {o : Oper} {a : Act} {w : World} {Q : Exit → Act → World → Prop} (hgd : o.guard = none) (ty : TypeId) (x y : Operand) (ho : o.op = .store ty x y)
    (g : Nat) (cells : Array Value) (hx : a.eval x = .pointer (some ⟨g, 0, none⟩)) (hy : a.eval y = .agg cells)
    (t : TypeId) (old : Array Value) (hg : Holds_ w g t old) (hi : (P.info? ty).map (·.size) = some cells.size)
    (hold : old.size = cells.size) (h1 : cells.all (·.oneCell') = true)
    (h : wpListIn F n P ops Q rest (a.put o.dst undef) (w.setRow g cells)) : wpListIn F n P ops Q (o :: rest) a w := by
  refine wpListIn_plain hgd fun K hK => ?_
  unfold Oper.wpIn
  refine ⟨?_, ?_⟩
  · simp [Oper.about, ho]
  · rw [Oper.semAt_plain F _ _ (by rw [ho]; intro c hc'; cases hc')]
    simp [execOp, ho, hx, hy, Instr.storeAt, Instr.sureAddr, run_storeVar_row w g t ty old cells hg hi hold h1, Result.andThen]
    exact hK _ _ h

theorem wpList_loadRow {P : Program} {ops : Array Oper} {rest : List Oper} {o : Oper} {a : Act} {w : World} {Q : Exit → Act → World → Prop} (hgd : o.guard = none) (ty : TypeId) (x : Operand) (ho : o.op = .load ty x)
    (g : Nat) (hx : a.eval x = .pointer (some ⟨g, 0, none⟩)) (t : TypeId) (cs : Array Value) (d : TypeDesc) (hg : Holds_ w g t cs)
    (hu : P.underlying ty = some d) (hd : (match d with | .struct _ | .array _ _ => true | _ => false) = true) (hi : (P.info? ty).map (·.size) = some cs.size)
    (h : wpList P ops Q rest (a.put o.dst (.agg cs)) w) : wpList P ops Q (o :: rest) a w :=
  wpList_load_row hgd ty x ho g hx t cs (0, 0) d hg hu hd hi h
theorem wpList_storeRow {P : Program} {ops : Array Oper} {rest : List Oper} {o : Oper} {a : Act} {w : World} {Q : Exit → Act → World → Prop} (hgd : o.guard = none) (ty : TypeId) (x y : Operand) (ho : o.op = .store ty x y)
    (g : Nat) (cells : Array Value) (hx : a.eval x = .pointer (some ⟨g, 0, none⟩)) (hy : a.eval y = .agg cells)
    (t : TypeId) (old : Array Value) (hg : Holds_ w g t old) (hi : (P.info? ty).map (·.size) = some cells.size)
    (hold : old.size = cells.size) (h1 : cells.all (·.oneCell') = true)
    (h : wpList P ops Q rest (a.put o.dst undef) (w.setRow g cells)) : wpList P ops Q (o :: rest) a w :=
  wpList_store_row hgd ty x y ho g cells hx hy t old hg hi hold h1 h

/-- A row of numbers, as a function of the place. -/
def row_ (k : IntKind) (n : Nat) (f : Nat → Int) : Array Value := ((List.range n).map fun i => Value.int k (f i)).toArray
theorem row_size (k : IntKind) (n : Nat) (f : Nat → Int) : (row_ k n f).size = n := by simp [row_]
theorem row_get (k : IntKind) (n : Nat) (f : Nat → Int) (i : Nat) (hi : i < n) : (row_ k n f)[i]? = some (.int k (f i)) := by simp [row_, hi]
theorem row_one (k : IntKind) (n : Nat) (f : Nat → Int) : (row_ k n f).all (·.oneCell') = true := by
  rw [Array.all_eq_true_iff_forall_mem]
  intro v hv
  simp only [row_, List.mem_toArray, List.mem_map] at hv
  obtain ⟨i, _, rfl⟩ := hv
  rfl
theorem row_congr {k : IntKind} {n : Nat} {f f' : Nat → Int} (h : ∀ i, i < n → f i = f' i) : row_ k n f = row_ k n f' := by
  unfold row_
  congr 1
  apply List.map_congr_left
  intro i hi
  rw [h i (by simpa using hi)]
theorem row_inj {k : IntKind} {n : Nat} {f f' : Nat → Int} (h : row_ k n f = row_ k n f') (i : Nat) (hi : i < n) : f i = f' i := by
  have h1 := row_get k n f i hi
  rw [h, row_get k n f' i hi] at h1
  injection h1 with h1
  injection h1 with _ h1
  exact h1.symm
theorem row_put (k : IntKind) (n : Nat) (f : Nat → Int) (i : Nat) (v : Int) (hi : i < n) : (row_ k n f).setIfInBounds i (.int k v) = row_ k n (fun j => if j = i then v else f j) := by
  apply Array.ext_getElem?
  intro j
  rw [Array.getElem?_setIfInBounds]
  by_cases hj : j < n
  · rw [row_get _ _ _ j hj, row_get _ _ _ j hj, row_size]
    by_cases hij : i = j
    · subst hij; simp [hi]
    · rw [if_neg hij, if_neg (fun e => hij e.symm)]
  · rw [if_neg (by omega), Array.getElem?_eq_none (by rw [row_size]; omega), Array.getElem?_eq_none (by rw [row_size]; omega)]
/-- Whatever cells there are, one after the other: a row of numbers. -/
theorem row_of (k : IntKind) (n : Nat) (cs : Array Value) (f : Nat → Int) (hn : cs.size = n) (h : ∀ i, i < n → cs[i]? = some (.int k (f i))) : cs = row_ k n f := by
  apply Array.ext_getElem?
  intro j
  by_cases hj : j < n
  · rw [h j hj, row_get _ _ _ j hj]
  · rw [Array.getElem?_eq_none (by omega), Array.getElem?_eq_none (by rw [row_size]; omega)]
theorem run_index_row {P : Program} (t e : TypeId) (n : Nat) (k kk : IntKind) (f : Nat → Int) (i : Nat) (ht : P.underlying t = some (.array n e)) (he : P.underlying e = some (.int k)) (hs : (P.info? e).map (·.size) = some 1) (hi : i < n) (W : World) :
    (Instr.index t (.agg (row_ k n f)) (.int kk (i : Int))).run P W = .ok (.int k (f i)) W := by
  have h1 := row_get k n f i hi
  have hag : (isAgg e).run P W = .ok false W := by
    unfold isAgg
    rw [Sem.run_bind, run_underlying he]
    rfl
  cases hq : P.info? e with
  | none => rw [hq] at hs; cases hs
  | some j =>
    have hj : j.size = 1 := by rw [hq] at hs; simpa using hs
    simp [Instr.index, go_sem, run_underlying ht, part, sizeOf, typeInfo, hi, hag, hq, hj, h1]

/-- The cells of block g are (at least) these. -/
def Reads_ (w : World) (g : Nat) (cs : Array Value) : Prop := ∀ j v, cs[j]? = some v → w.cell? ⟨g, j, none⟩ = some v
theorem Reads_.below {w w' : World} {B g : Nat} {cs : Array Value} (h : Reads_ w g cs) (hb : Below B w w') (hg : g < B) : Reads_ w' g cs := fun j v hv => (hb.cell (p := ⟨g, j, none⟩) hg).trans (h j v hv)
theorem run_loadVar_cells {P : Program} (w : World) (g : Nat) (ty : TypeId) (cs : Array Value) (d : TypeDesc) (hg : Reads_ w g cs)
    (hu : P.underlying ty = some d) (hd : (match d with | .struct _ | .array _ _ => true | _ => false) = true) (hi : (P.info? ty).map (·.size) = some cs.size) :
    (loadVar ty ⟨g, 0, none⟩).run P w = .ok (.agg cs) w := by
  have hl : (loadCells ⟨g, 0, none⟩ cs.toList.length).run P w = .ok cs.toList.toArray w :=
    run_loadCells_list (P := P) w ⟨g, 0, none⟩ cs.toList (fun j v hv => by
      have hadd : (⟨g, 0, none⟩ : Addr).add j = ⟨g, j, none⟩ := by unfold Addr.add; split <;> simp_all
      rw [hadd]
      exact hg j v (by simpa using hv))
  cases hq : P.info? ty with
  | none => simp [hq] at hi
  | some i =>
    have hs : i.size = cs.size := by simpa [hq] using hi
    have hagg : (isAgg ty).run P w = .ok true w := by
      unfold isAgg
      rw [Sem.run_bind, run_underlying hu w]
      cases d <;> simp_all
    simp only [Array.length_toList, Array.toArray_toList] at hl
    simp [loadVar, Sem.run_bind, hagg, sizeOf, typeInfo, hq, hs, hl]
theorem wpList_loadCells {P : Program} {ops : Array Oper} {rest : List Oper} {o : Oper} {a : Act} {w : World} {Q : Exit → Act → World → Prop} (hgd : o.guard = none) (ty : TypeId) (x : Operand) (ho : o.op = .load ty x)
    (g : Nat) (hx : a.eval x = .pointer (some ⟨g, 0, none⟩)) (cs : Array Value) (d : TypeDesc) (hg : Reads_ w g cs)
    (hu : P.underlying ty = some d) (hd : (match d with | .struct _ | .array _ _ => true | _ => false) = true) (hi : (P.info? ty).map (·.size) = some cs.size)
    (h : wpList P ops Q rest (a.put o.dst (.agg cs)) w) : wpList P ops Q (o :: rest) a w :=
  wpList_plain hgd fun K hK => by
    unfold Oper.wp execOp
    simp only [ho, hx, Instr.loadAt, Instr.sureAddr, Sem.run_bind, Sem.run_pure, Result.andThen_ok, run_loadVar_cells w g ty cs d hg hu hd hi]
    exact hK _ _ h

/-! A region that draws its order, within a round of a range over a function: by the plain laws, where no operation is a 'defer' and the post lets nothing out. -/
def noDefer (ops : Array Oper) : Bool := ops.all fun o => match o.op with | .defer _ => false | _ => true
theorem noDefer_at {ops : Array Oper} (h : noDefer ops = true) {i : Nat} {o : Oper} (hi : ops[i]? = some o) : ∀ c, o.op ≠ .defer c := by
  intro c hc
  have := (Array.all_eq_true_iff_forall_mem.1 h) o (Array.mem_of_getElem? hi)
  rw [hc] at this
  cases this
section
variable {P : Program} {ops : Array Oper} {Q : Exit → Act → World → Prop} {l m : Nat}
theorem upon_toIn {o : Oper} {a : Act} {K : Act → World → Prop} {r : Result Next} (h : o.upon P a K Q r) : o.uponIn (Fence.wide.inRound l) m P a K Q r := by
  cases r with
  | ok x w' =>
    cases x <;> simp only [Oper.upon, Oper.uponIn] at h ⊢ <;> first
      | exact h
      | (refine ⟨fun hd => (by cases hd), CallsIn.inRound l (callsIn_wide.2 h)⟩)
      | (refine ⟨fun hd => (by cases hd), fun c cs _ => ?_⟩
         obtain ⟨v, w'', hr, hs⟩ := h c cs
         exact ⟨v, w'', hr, stepsIn_wide.2 hs⟩)
  | halt x w' => cases x <;> simp only [Oper.upon, Oper.uponIn] at h ⊢ <;> exact h
theorem wpOp_toIn (hQ : ¬ LetsOut Q) (hnd : noDefer ops = true) {i : Nat} {K K' : Act → World → Prop} (hK : ∀ a w, K a w → K' a w) {a : Act} {w : World} (h : wpOp P ops Q i K a w) :
    wpOpIn (Fence.wide.inRound l) m P ops Q i K' a w := by
  unfold wpOp at h
  unfold wpOpIn
  cases ho : ops[i]? with
  | none => rw [ho] at h; exact hK _ _ h
  | some o =>
    rw [ho] at h
    dsimp only at h ⊢
    by_cases hw : Region.wanted o (yielded ops a.tmps) = true
    · rw [if_pos hw] at h ⊢
      rcases h with h | ⟨_, h⟩
      · refine Oper.wpIn_mono hK ⟨fun _ _ => trivial, ?_⟩
        show o.uponIn _ _ _ _ _ _ (Sem.run P (o.semAt (some l) a.eval) w)
        rw [Oper.semAt_some l _ _ (noDefer_at hnd ho)]
        exact upon_toIn h
      · exact absurd h hQ
    · rw [if_neg hw] at h ⊢
      exact ⟨fun _ _ => trivial, hK _ _ h⟩
theorem wpAny_toIn (hQ : ¬ LetsOut Q) (hnd : noDefer ops = true) {md : Region.Mode} : ∀ (fuel : Nat) (listed : Array Bool) (a : Act) (w : World), wpAny P md ops Q fuel listed a w →
    wpAnyIn (Fence.wide.inRound l) m P md ops Q fuel listed a w := by
  intro fuel
  induction fuel with
  | zero => exact fun _ _ _ h => h
  | succ fuel ih => exact fun listed a w h => ⟨h.1, fun i hi => wpOp_toIn hQ hnd (fun a' w' => ih _ a' w') (h.2 i hi)⟩
theorem wpIn_region_still_tail {id : Nat} {a : Act} {w : World} {L : List Oper} (hQ : ¬ LetsOut Q) (n : Nat) (hm : P.follows .mixedOrders = true) (hB : (noDefer L.toArray && Region.lexTailB .any L.toArray n) = true)
    (h : wpStill P L.toArray w.drew (fun a' => wpList P L.toArray Q (L.drop n) a' w.drew) (L.take n) a) : (Code.region id L.toArray true).wpIn (Fence.wide.inRound l) m P Q a w := by
  simp only [Region.lexTailB, Bool.and_eq_true, decide_eq_true_eq] at hB
  obtain ⟨hnd, ⟨⟨⟨hsel, hn⟩, hs⟩, hc⟩, hlex⟩ := hB
  have hn' : n < L.length := by simpa using hn
  have htl : (L.take n).length = n := by simp; omega
  have hdl : (L.drop n).length = L.toArray.size - n := by simp
  have inv0 : HeadInv .any L.toArray n (Array.replicate L.toArray.size false) :=
    ⟨by simp, fun j oj _ hl => (by rw [getD_replicate_false] at hl; cases hl), fun t _ ht => getD_in (by simpa using ht) (getD_replicate_false _ _)⟩
  have H := wpAnyL_lex (md := .any) (g := L.toArray.size - n) hsel hs hc hn (L.take n) 0 _ a (fun j hj => by
    have hj' : j < n := by rw [htl] at hj; exact hj
    simp [hj']) (by simpa using htl) inv0 (by rw [htl]; exact hlex) h
  refine wpIn_region_any hm (wpAny_toIn hQ hnd _ _ _ _ ?_)
  have := wpAny_of_head (Q' := Q) (g := L.toArray.size - n) (fun listed a' hL => by
    have := wpAny_of_seq (md := .any) (Q' := Q) (L.drop n) n listed a' w.drew (fun j => by simp [List.getElem?_drop]) (by rw [hdl]; exact hL.1) hL.2
    rwa [hdl] at this) _ _ _ H
  rw [htl, show n + (L.toArray.size - n) = L.toArray.size by omega] at this
  exact this
end
/-- A region that draws its order and leaves the world alone, in an activation of a function, inside the wide fence. -/
theorem wpIn_region_still_wide {P : Program} {Q : Exit → Act → World → Prop} {m id : Nat} {a : Act} {w : World} {L : List Oper} (hm : P.follows .mixedOrders = true) (hB : Region.lexB .any L.toArray = true)
    (h : wpStill P L.toArray w.drew (fun a' => Q .normal a' w.drew) L a) : (Code.region id L.toArray true).wpIn Fence.wide m P Q a w :=
  wpIn_wide.2 (wp_region_still hm hB (by simpa using h))
theorem grownBy_drew (w : World) (row : Option Nat) : w.grownBy w.drew row := ⟨rfl, rfl, rfl, Nat.le_refl _, fun _ _ _ => rfl⟩
theorem KeepsOthers_below {w w' : World} (hb : Below w.heap.size w w') : KeepsOthers w w' :=
  KeepsOthers.of_grownBy (row := none) ⟨hb.os, hb.tape, hb.output, hb.size, fun i hi _ => hb.block i hi⟩ (fun j o e => by cases e)
theorem KeepsOthers_putRow {w : World} {g : Nat} {t : TypeId} {cs : Array Value} (h : Holds_ w g t cs) (ds : Array Value) : KeepsOthers w (w.setRow g ds) :=
  KeepsOthers.of_grownBy (row := some g) ⟨rfl, rfl, rfl, by simp, fun k _ hk => setRow_other w g k _ (fun e => hk (by rw [e]))⟩ (fun j o e ho => by
    cases e
    unfold Holds_ at h
    rw [h] at ho
    cases ho
    rfl)
end Go.Proofs.YtkgbecgdappjoaaDoor
