/- A range over an iterator that goes through a known list and whose rounds are all gone through, where the iterator may itself be a range over another: what a round keeps is told to it, and what it keeps of the caller's is no more than cells and what lay ahead. -/
import Derived.Test.YthfopoeahphnjaaSl
import Derived.RangeFuncNested
namespace Go.Proofs.Ythfopoeahphnjaa
open Go.RowKit Go.Shelf
set_option linter.unusedVariables false
set_option linter.unusedSimpArgs false

variable {F : Fence} {n : Nat} {P : Program} {w : World}

/-- What lies at or beyond B and is no row of words lies as it lay. -/
structure Keeps (B : Nat) (W W' : World) : Prop where
  size : W.heap.size ≤ W'.heap.size
  same : ∀ (k : Nat) (o : Obj), B ≤ k → W.heap[k]? = some o → (∀ cs fr, o ≠ .cells cs 25 fr) → W'.heap[k]? = some o
theorem Keeps.refl (B : Nat) (W : World) : Keeps B W W := ⟨Nat.le_refl _, fun _ _ _ h _ => h⟩
theorem Keeps.trans {B : Nat} {X Y Z : World} (h : Keeps B X Y) (k : Keeps B Y Z) : Keeps B X Z := ⟨Nat.le_trans h.size k.size, fun i o hB hi ho => k.same i o hB (h.same i o hB hi ho) ho⟩
theorem Keeps.alloc (B : Nat) (W : World) (o : Obj) : Keeps B W (W.alloc o) := ⟨by simp, fun k x _ hk _ => (heap_alloc_old W o k (Array.getElem?_eq_some_iff.1 hk).1).trans hk⟩
theorem Keeps.drew (B : Nat) (W : World) : Keeps B W W.drew := ⟨Nat.le_refl _, fun _ _ _ h _ => h⟩
theorem Keeps.grown {B : Nat} {W W' : World} {row : Option Nat} (hg : W.grownBy W' row) (hr : ∀ r, row = some r → r < B ∨ ∃ cs fr, W.heap[r]? = some (.cells cs 25 fr)) : Keeps B W W' :=
  ⟨hg.size, fun k o hB hk ho => (hg.block k (Array.getElem?_eq_some_iff.1 hk).1 (fun e => by
    rcases hr k e.symm with h | ⟨cs, fr, h⟩
    · omega
    · rw [h] at hk; cases hk; exact ho _ _ rfl)).trans hk⟩

/-- AN ITERATOR GOES THROUGH xs: whatever the caller keeps of cells and of blocks that lay ahead of the call; a round leaves all blocks below n0 as they were, and whatever is no row of words from B on. -/
def GoesAll {α : Type} (F : Fence) (n : Nat) (P : Program) (g : Nat) (lb : Array Value) (encs : α → Array Value) (xs : List α) (n0 B : Nat) (w : World) : Prop :=
  ∀ (l : Nat) (J : Nat → World → Prop) (W : World), Below w.heap.size w W → OwnFrom W.heap.size J →
    (∀ k x W1, xs[k]? = some x → J k W1 → YieldAt F (n - 1) P l (encs x) W1 fun e W' => e = .returned (.bool true) ∧ J (k + 1) W' ∧ Below n0 W1 W' ∧ Keeps B W1 W') →
    J 0 W → CallsIn F n P g (#[.func (.yield l) #[] #[]] ++ lb) W fun e W' => (∃ v, e = .returned v) ∧ J xs.length W'

theorem wpIn_rangeFunc_all {α : Type} {g : Operand} {ps : Array Tmp} {assign body : Code} {Q : Exit → Act → World → Prop} {a : Act}
    (hro : F.round = none) (h1 : 1 ≤ n) {gf : Nat} {lb : Array Value} (hg : a.eval g = .func (.func gf) #[] lb) (hFg : F.fn gf) (eg : ∀ args w, (callFunc gf args).run P w = .ok (.enter gf args) w)
    {encs : α → Array Value} (xs : List α) (n0 B : Nat) (hn0 : n0 ≤ w.heap.size) (hB0 : B ≤ w.heap.size) (hseq : GoesAll F (n - 1) P gf lb encs xs n0 B w) (hps : ∀ x, (encs x).size = ps.size)
    (I : Nat → World → Prop) (hI : OwnFrom w.heap.size I) (h0 : I 0 w) (Ax : α → Act → World → Prop) (hAx : ∀ x a', OwnFrom w.heap.size (fun (_ : Unit) W => Ax x a' W))
    (hassign : ∀ (l k : Nat) (x : α) (W : World) (K : Act → World → Prop), I k W → (∀ a' W', Keeps B W W' → Below n0 W W' → I k W' → Ax x a' W' → K a' W') →
      assign.wpIn (F.inRound l) (n - 1 - 1) P (Exit.then K (fun _ _ _ => False)) { tmps := (ps.zip (encs x)).foldl (fun t (p, v) => t.setIfInBounds p v) a.tmps, defers := [] } W)
    (hbody : ∀ (l k : Nat) (x : α) (a' : Act) (W : World), xs[k]? = some x → I k W → Ax x a' W →
      body.wpIn (F.inRound l) (n - 1 - 1) P (fun e _ W' => e = .normal ∧ Keeps B W W' ∧ Below n0 W W' ∧ I (k + 1) W') a' W)
    (hdone : ∀ (D : Nat) (W : World), w.heap.size ≤ D → I xs.length W → W.heap[D]? = some (.deferred (some [])) → Q .normal { a with defers := { target := .collected D, args := #[] } :: a.defers } W) :
    (Code.rangeFunc g ps assign body).wpIn F n P Q a w := by
  refine wpIn_rangeFunc fun fn hfn => ?_
  rw [hro]
  obtain ⟨rec, hrec⟩ : ∃ rec : LoopState → Option Code → Loop, rec = fun st pe => { state := st, pending := pe, fn, tmps := a.tmps, params := ps, assign, body, defers := w.heap.size } := ⟨_, rfl⟩
  obtain ⟨l, hl⟩ : ∃ l, w.heap.size + 1 = l := ⟨_, rfl⟩
  have hbW : Below w.heap.size w ((w.alloc (.deferred (some []))).alloc (.loop (rec .ready none))) := ((Below.refl _ w).alloc (Nat.le_refl _) _).alloc (by simp) _
  have hsz : ((w.alloc (.deferred (some []))).alloc (.loop (rec .ready none))).heap.size = l + 1 := by simp; omega
  have hL : ((w.alloc (.deferred (some []))).alloc (.loop (rec .ready none))).heap[l]? = some (.loop (rec .ready none)) := by
    have := World.alloc_heap_new (w.alloc (.deferred (some []))) (.loop (rec .ready none))
    rwa [World.size_alloc, hl] at this
  have hD : ((w.alloc (.deferred (some []))).alloc (.loop (rec .ready none))).heap[w.heap.size]? = some (.deferred (some [])) :=
    (Below.heap_alloc _ _ _ (by simp)).trans (World.alloc_heap_new w _)
  have hI0 := hI.alloc (.loop (rec .ready none)) (hI.alloc (.deferred (some [])) h0)
  have hent := run_enterLoop_outer (P := P) (w := w) fn a.tmps ps assign body
  rw [show ({ state := .ready, pending := none, fn := fn, tmps := a.tmps, params := ps, assign := assign, body := body, defers := w.heap.size } : Loop) = rec .ready none from by rw [hrec]] at hent
  generalize (w.alloc (.deferred (some []))).alloc (.loop (rec .ready none)) = W1 at *
  refine ⟨l, [{ target := .collected w.heap.size, args := #[] }], W1, { target := .fn (.func gf) lb, args := #[.func (.yield l) #[] #[]] }, W1, gf,
    #[.func (.yield l) #[] #[]] ++ lb, W1, ?_, ?_, ?_, ?_, fun _ => h1, ?_⟩
  · rw [← hl]; exact hent
  · simp only [resolve, hg]
    simp [go_sem]
  · intro f' hf'
    simp [Target.leads] at hf'
    subst hf'
    exact hFg
  · simp [invoke, go_sem, eg]
  · have hle : ∀ {A : World} {row : Option Nat}, (∀ r, row = some r → W1.heap.size ≤ r ∧ ∃ o : Obj, A.heap[r]? = some o ∧ o.isCells = false) → ∀ r, row = some r → w.heap.size ≤ r ∧ ∃ o : Obj, A.heap[r]? = some o ∧ o.isCells = false :=
      fun hr r e => ⟨by have := (hr r e).1; omega, (hr r e).2⟩
    have hstay : ∀ {A B : World} {row : Option Nat} {k : Nat} {o : Obj}, A.grownBy B row → (∀ r, row = some r → W1.heap.size ≤ r ∧ ∃ o : Obj, A.heap[r]? = some o ∧ o.isCells = false) → k ≤ l → A.heap[k]? = some o → B.heap[k]? = some o :=
      fun hg' hr hk ho => (hg'.block _ (Array.getElem?_eq_some_iff.1 ho).1 (fun e => by have := (hr _ e.symm).1; omega)).trans ho
    refine (hseq l (fun k W => I k W ∧ W.heap[l]? = some (.loop (rec .ready none)) ∧ W.heap[w.heap.size]? = some (.deferred (some []))) W1 hbW
      (fun s A B row hs hg' hr => ⟨hI s A B row hs.1 hg' (hle hr), hstay hg' hr (Nat.le_refl _) hs.2.1, hstay hg' hr (by omega) hs.2.2⟩) ?_ ⟨hI0, hL, hD⟩).mono ?_
    · rintro k x W hx ⟨hi, hlr, hdr⟩
      have hy := run_yield (P := P) (args := encs x) hlr (by rw [hrec]; exact hps x)
      rw [hrec] at hy
      refine ⟨fn, _, assign, body, hy, roundIn_of_wpIn hfn (hassign _ k x W _ hi ?_)⟩
      intro a' Wa hka hba hia hax
      have hlr2 := hka.same l _ (by omega) hlr (fun _ _ h => by cases h)
      have hdr2 := hka.same _ _ hB0 hdr (fun _ _ h => by cases h)
      have hlt : l < Wa.heap.size := (Array.getElem?_eq_some_iff.1 hlr2).1
      refine ⟨_, run_beginRound hlr2 (by rw [hrec]), ?_⟩
      have hl2 : (Wa.putObj l (.loop { rec .ready none with state := .busy })).heap[l]? = some (.loop { rec .ready none with state := .busy }) := World.putObj_heap_same hlt
      have hd2 : (Wa.putObj l (.loop { rec .ready none with state := .busy })).heap[w.heap.size]? = some (.deferred (some [])) := (World.putObj_heap_other (by omega)).trans hdr2
      have hbel : ∀ (X : World) (o : Obj), Below n0 X (X.putObj l o) := fun X o => ⟨rfl, rfl, rfl, by simp, fun i hi => World.putObj_heap_other (by omega)⟩
      refine wpIn_mono (hbody _ k x a' _ hx (hI.putObj _ hia (by omega) hlr2 rfl) ((hAx x a').putObj (s := ()) _ hax (by omega) hlr2 rfl)) ?_
      rintro e a3 W3 ⟨rfl, hk3, hb3, hi3⟩
      have hl3 := hk3.same l _ (by omega) hl2 (fun _ _ h => by cases h)
      have hr : (Instr.endRound l none).run P W3 = .ok (.bool true) (W3.putObj l (.loop (rec .ready none))) := by
        have := run_endRound (P := P) none hl3
        rw [hrec] at this ⊢
        exact this
      have hd3 := hk3.same _ _ hB0 hd2 (fun _ _ h => by cases h)
      refine ⟨_, _, hr, rfl, ⟨hI.putObj _ hi3 (by omega) hl3 rfl, World.putObj_heap_same (Array.getElem?_eq_some_iff.1 hl3).1, (World.putObj_heap_other (by omega)).trans hd3⟩, hba.trans ((hbel _ _).trans (hb3.trans (hbel _ _))), ?_⟩
      refine ⟨?_, fun i o hi ho hc => ?_⟩
      · have := hka.size
        have := hk3.size
        simp at *
        omega
      · by_cases hil : i = l
        · subst hil
          have : o = .loop (rec .ready none) := Option.some.inj (ho.symm.trans hlr)
          subst this
          exact World.putObj_heap_same (Array.getElem?_eq_some_iff.1 hl3).1
        · have h1 := hka.same i o hi ho hc
          have h2 : (Wa.putObj l (.loop { rec .ready none with state := .busy })).heap[i]? = some o := (World.putObj_heap_other (by omega)).trans h1
          have h3 := hk3.same i o hi h2 hc
          exact (World.putObj_heap_other (by omega)).trans h3
    · rintro e W2 ⟨⟨v, rfl⟩, hi, hlr, hdr⟩
      refine ⟨none, _, by have := run_endLoop (P := P) hlr (by rw [hrec]; simp); rw [hrec] at this; exact this, ?_⟩
      exact hdone _ _ (Nat.le_refl _) (hI.putObj _ hi (by omega) hlr rfl) ((World.putObj_heap_other (by omega)).trans hdr)

theorem room_any {F : Fence} (hd : F.depth = none) (k : Nat) : F.room k := fun d h => by rw [hd] at h; cases h
theorem round_any {F : Fence} (hd : F.depth = none) {m : Nat} (m' : Nat) {P : Program} {l : Nat} {f : FuncId} {tmps : Array Value} {assign body : Code} {w : World} {R : Ending → World → Prop}
    (h : RoundIn F m P l f tmps assign body w R) : RoundIn F m' P l f tmps assign body w R := ⟨h.1, fun c cs _ => h.2 c cs (room_any hd _)⟩
theorem yield_any {F : Fence} (hd : F.depth = none) {m : Nat} (m' : Nat) {P : Program} {l : Nat} {args : Array Value} {W : World} {R : Ending → World → Prop} (h : YieldAt F m P l args W R) : YieldAt F m' P l args W R := by
  obtain ⟨fn, tmps, assign, body, hy, hR⟩ := h
  exact ⟨fn, tmps, assign, body, hy, hR.1, fun c cs _ => hR.2 c cs (room_any hd _)⟩
theorem yield_inRound {F : Fence} {m : Nat} (l' : Nat) {P : Program} {l : Nat} {args : Array Value} {W : World} {R : Ending → World → Prop} (h : YieldAt F m P l args W R) : YieldAt (F.inRound l') m P l args W R := h
end Go.Proofs.Ythfopoeahphnjaa
