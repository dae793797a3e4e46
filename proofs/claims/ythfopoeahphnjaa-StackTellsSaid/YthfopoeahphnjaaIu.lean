/- A region that draws its order, where what is known of the world may hang on what has been carried out: as Iz, with the list of what is done in hand. -/
import Derived.Test.YthfopoeahphnjaaIz
namespace Go.Proofs.Ythfopoeahphnjaa
open Go.RowKit Go.Shelf
set_option linter.unusedVariables false
set_option linter.unusedSimpArgs false

section
variable {P : Program} {ops : Array Oper} {C : (Nat → Bool) → World → Prop} {R : World → World → Prop} {F : Nat → Value → World → Prop} {a0 : Act} {n : Nat}

/-- What is listed. -/
def lsOf (listed : Array Bool) : Nat → Bool := fun i => listed.getD i false
structure RegInvL (ops : Array Oper) (C : (Nat → Bool) → World → Prop) (F : Nat → Value → World → Prop) (a0 : Act) (n : Nat) (listed : Array Bool) (a : Act) (W : World) : Prop where
  size : listed.size = ops.size
  cls : C (lsOf listed) W
  clos : ∀ j o, ops[j]? = some o → listed.getD j false = true → ∀ e ∈ o.after, Region.binds .any e = true → listed.getD e.on false = true
  known : ∀ i o, i < n → ops[i]? = some o → listed.getD i false = true → F i (got o a) W
  tmps : a.tmps.size = a0.tmps.size
  defers : a.defers = a0.defers
  old : ∀ s, (∀ i o, ops[i]? = some o → i < n → o.dst ≠ some s) → a.tmps.getD s undef = a0.tmps.getD s undef
  tail : ∀ t, n ≤ t → t < ops.size → listed.getD t true = false

/-- WHATEVER ORDER IS DRAWN. -/
theorem wpAny_invL {Q : Exit → Act → World → Prop} (hB : Region.backB ops n a0.tmps.size = true) (hn : n ≤ ops.size)
    (hst : ∀ i v W W', R W W' → F i v W → F i v W')
    (hop : ∀ i o a W ls, i < n → ops[i]? = some o → C ls W → ls i = false → (∀ j o', ops[j]? = some o' → ls j = true → ∀ e ∈ o'.after, Region.binds .any e = true → ls e.on = true) → a.tmps.size = a0.tmps.size → (∀ s, (∀ j o', ops[j]? = some o' → j < n → o'.dst ≠ some s) → a.tmps.getD s undef = a0.tmps.getD s undef) →
      (∀ j o', ops[j]? = some o' → (∃ e ∈ o.after, Region.binds .any e = true ∧ e.on = j) → F j (got o' a) W) → DoesV P o a W fun v W' => C (fun k => if k = i then true else ls k) W' ∧ R W W' ∧ F i (if o.dst = none then undef else v) W')
    (hwait : ∀ t o, n ≤ t → ops[t]? = some o → ∀ i, i < n → ∃ e ∈ o.after, Region.binds .any e = true ∧ e.on = i)
    (hend : ∀ g listed a W, ops.size ≤ g + n → listed.size = ops.size → (∀ i, i < n → listed.getD i true = true) → (∀ t, n ≤ t → t < ops.size → listed.getD t true = false) → C (lsOf listed) W → a.tmps.size = a0.tmps.size → a.defers = a0.defers →
      (∀ s, (∀ j o', ops[j]? = some o' → j < n → o'.dst ≠ some s) → a.tmps.getD s undef = a0.tmps.getD s undef) → (∀ i o, i < n → ops[i]? = some o → F i (got o a) W) → wpAny P .any ops Q g listed a W) :
    ∀ (fuel : Nat) (listed : Array Bool) (a : Act) (W : World), cntOff listed n + (ops.size - n) ≤ fuel → RegInvL ops C F a0 n listed a W → wpAny P .any ops Q fuel listed a W := by
  have fin : ∀ (fuel : Nat) (listed : Array Bool) (a : Act) (W : World), cntOff listed n = 0 → ops.size - n ≤ fuel → RegInvL ops C F a0 n listed a W → wpAny P .any ops Q fuel listed a W := by
    intro fuel listed a W h0 hf inv
    have hall := cntOff_zero listed n h0
    refine hend fuel listed a W (by omega) inv.size hall inv.tail inv.cls inv.tmps inv.defers inv.old fun i o hi ho => inv.known i o hi ho ?_
    have h1 := hall i hi
    have hlt : i < listed.size := by rw [inv.size]; omega
    simpa [hlt] using h1
  intro fuel
  induction fuel with
  | zero => intro listed a W hc inv; exact fin 0 listed a W (by omega) (by omega) inv
  | succ fuel ih =>
    intro listed a W hc inv
    by_cases h0 : cntOff listed n = 0
    · exact fin _ listed a W h0 (by omega) inv
    obtain ⟨u, hun, hu⟩ : ∃ u, u < n ∧ listed.getD u true = false := by
      rcases Classical.em (∃ u, u < n ∧ listed.getD u true = false) with h | h
      · exact h
      · exfalso
        apply h0
        unfold cntOff
        rw [List.countP_eq_zero]
        intro x hx
        have hx' := List.mem_range.1 hx
        cases hl : listed.getD x true with
        | true => simp
        | false => exact absurd ⟨x, hx', hl⟩ h
    refine ⟨fun hr => ?_, fun i hi => ?_⟩
    · have := ready_or_done hB inv.size hr u (by omega)
      rw [hu] at this
      cases this
    · obtain ⟨hil, o, ho, hall⟩ := mem_ready.1 hi
      have hilt : i < ops.size := (Array.getElem?_eq_some_iff.1 ho).1
      have hin : i < n := by
        rcases Nat.lt_or_ge i n with h | h
        · exact h
        · exfalso
          obtain ⟨e, he, hb, hon⟩ := hwait i o h ho u hun
          have h1 := hall e he hb
          rw [hon] at h1
          have hus : u < listed.size := by rw [inv.size]; omega
          simp [hus] at h1 hu
          rw [hu] at h1; cases h1
      obtain ⟨hg, hdl, hdd⟩ := backB_head hB ho hin
      unfold wpOp
      simp only [ho]
      rw [if_pos (by unfold Region.wanted; rw [hg])]
      left
      have hlsi : lsOf listed i = false := by
        have h9 : i < listed.size := by rw [inv.size]; exact hilt
        simpa [lsOf, h9] using hil
      refine wp_of_does (hop i o a W (lsOf listed) hin ho inv.cls hlsi inv.clos inv.tmps inv.old fun j o' hj ⟨e, he, hb, hon⟩ => inv.known j o' (by have := backB_after hB ho e he hb; omega) hj (by rw [← hon]; exact hall e he hb)) ?_
      rintro v W' ⟨hC', hR, hF⟩
      have hisz : i < listed.size := by rw [inv.size]; exact hilt
      have hcl := cntOff_set listed n i hin hisz hil
      refine ih _ _ _ (by omega) ⟨by simp [inv.size], ?_, ?_, fun j oj hjn hj hl => ?_, by rw [put_size]; exact inv.tmps, by rw [put_defers]; exact inv.defers, fun s hs => ?_, fun t ht ht' => ?_⟩
      · have hfun : lsOf (listed.setIfInBounds i true) = fun k => if k = i then true else lsOf listed k := by
          funext k
          by_cases hk : k = i
          · subst hk; simp [lsOf, hisz]
          · simp [lsOf, hk, Array.getElem?_setIfInBounds_ne (Ne.symm hk)]
        rw [hfun]
        exact hC'
      · intro j oj hj hl e he hb
        have hsub : ∀ k, listed.getD k false = true → (listed.setIfInBounds i true).getD k false = true := by
          intro k hk
          by_cases hki : i = k
          · subst hki; simp [hisz]
          · simpa [Array.getElem?_setIfInBounds_ne hki] using hk
        by_cases hij : i = j
        · subst hij
          have : oj = o := Option.some.inj (hj.symm.trans ho)
          subst this
          have h1 := hall e he hb
          have h2 := backB_after hB ho e he hb
          have h3 : e.on < listed.size := by omega
          have h4 : listed.getD e.on false = true := by simpa [h3] using h1
          exact hsub _ h4
        · exact hsub _ (inv.clos j oj hj (by simpa [Array.getElem?_setIfInBounds_ne hij] using hl) e he hb)
      · by_cases hij : i = j
        · subst hij
          have : oj = o := Option.some.inj (hj.symm.trans ho)
          subst this
          have hgot : got oj (a.put oj.dst v) = if oj.dst = none then undef else v := by
            unfold got
            cases hd : oj.dst with
            | none => simp
            | some d =>
              have hds := hdl d hd
              simp only [put_getD, inv.tmps, hds, and_true, if_true]
              simp
          rw [hgot]
          exact hF
        · have hl' : listed.getD j false = true := by simpa [Array.getElem?_setIfInBounds_ne hij] using hl
          have hk := hst j _ W W' hR (inv.known j oj hjn hj hl')
          have hgot : got oj (a.put o.dst v) = got oj a := by
            unfold got
            cases hd : oj.dst with
            | none => rfl
            | some d =>
              have hne : o.dst ≠ some d := fun h => hdd j oj hj hjn (fun h' => hij h'.symm) d h hd
              simp only [put_getD, hne, false_and, if_false]
          rw [hgot]
          exact hk
      · rw [put_getD, if_neg (fun h => hs i o ho hin h.1)]
        exact inv.old s hs
      · have : i ≠ t := by omega
        have h9 := inv.tail t ht ht'
        simpa [Array.getElem?_setIfInBounds_ne this] using h9

/-- A REGION THAT DRAWS, with one operation at its end that waits for all the others. -/
theorem wp_region_invL_tail {id : Nat} {Q : Exit → Act → World → Prop} {w : World} {l : List Oper} (m : Nat) (o1 : Oper) (C : (Nat → Bool) → World → Prop) (R : World → World → Prop) (F : Nat → Value → World → Prop) (hm : P.follows .mixedOrders = true)
    (hl : l[m]? = some o1) (hlen : l.length = m + 1) (hw : (List.range m).all (fun i => o1.after.any fun e => e.on == i && Region.binds .any e) = true)
    (hB : Region.backB l.toArray m a0.tmps.size = true) (hC : C (fun _ => false) w.drew) (hst : ∀ i v W W', R W W' → F i v W → F i v W')
    (hop : ∀ a W ls, C ls W → (∀ j o', l[j]? = some o' → ls j = true → ∀ e ∈ o'.after, Region.binds .any e = true → ls e.on = true) → (∀ s, s ∉ dsts l m → a.tmps.getD s undef = a0.tmps.getD s undef) → OpsAll (fun i o => ls i = false → Preds l.toArray F a W o → DoesV P o a W fun v W' => C (fun k => if k = i then true else ls k) W' ∧ R W W' ∧ F i (if o.dst = none then undef else v) W') 0 (l.take m))
    (hfin : ∀ (v : Nat → Value) W ls, C ls W → (∀ i, i < m → ls i = true) → OpsAll (fun i o => F i (match o.dst with | some d => v d | none => undef) W) 0 (l.take m) → wpList P l.toArray Q [o1] { tmps := (dsts l m).foldl (fun t d => t.setIfInBounds d (v d)) a0.tmps, defers := a0.defers } W) :
    (Code.region id l.toArray true).wp P Q a0 w := by
  have hsz : l.toArray.size = m + 1 := hlen
  have htake : ∀ i, i < m → (l.take m)[i]? = l[i]? := fun i hi => by rw [List.getElem?_take, if_pos hi]
  refine wp_region_any hm ?_
  refine wpAny_invL (C := C) (R := R) (F := F) (a0 := a0) (n := m) hB (by omega) hst ?_ ?_ ?_ _ _ _ _ ?_ ?_
  · intro i o a W ls hi ho hCW hlsi hclo _ hold hpre
    have h := opsAll_get (hop a W ls hCW (fun j o' hj => hclo j o' (by simpa using hj)) fun s hs => hold s fun j o' hj hjn => dsts_mem hs j o' hj hjn) i o (by rw [htake i hi]; simpa using ho)
    rw [Nat.zero_add] at h
    exact h hlsi fun e he hbi o' ho' => hpre e.on o' ho' ⟨e, he, hbi, rfl⟩
  · intro t o ht hto i hi
    have hlt := (Array.getElem?_eq_some_iff.1 hto).1
    obtain rfl : t = m := by omega
    have : o = o1 := Option.some.inj ((show l[t]? = some o by simpa using hto).symm.trans hl)
    subst this
    obtain ⟨e, he, hon⟩ := Array.any_eq_true'.1 (List.all_eq_true.1 hw i (List.mem_range.2 hi))
    rw [Bool.and_eq_true] at hon
    exact ⟨e, he, hon.2, by simpa using hon.1⟩
  · intro g listed a W hg hls hall htl hCW hts hdf hold hkn
    have hW : wpList P l.toArray Q [o1] a W := by
      rw [act_puts a a0 (dsts l m) hts hdf fun s hs => hold s fun j o' hj hjn => dsts_mem hs j o' hj hjn]
      refine hfin (fun d => a.tmps.getD d undef) W (lsOf listed) hCW (fun i hi => by
        have h1 := hall i hi
        have h2 : i < listed.size := by omega
        simpa [lsOf, h2] using h1) ?_
      have all : ∀ (q : List Oper) (k : Nat), (∀ i o, q[i]? = some o → F (k + i) (got o a) W) → OpsAll (fun i o => F i (match o.dst with | some d => a.tmps.getD d undef | none => undef) W) k q := by
        intro q
        induction q with
        | nil => intro k _; trivial
        | cons o q ih =>
          intro k h
          refine ⟨h 0 o rfl, ih (k + 1) fun i o' hi => ?_⟩
          have := h (i + 1) o' (by simpa using hi)
          rwa [show k + (i + 1) = k + 1 + i from by omega] at this
      refine all (l.take m) 0 fun i o hi => ?_
      rw [Nat.zero_add]
      have him : i < m := by
        obtain ⟨h, _⟩ := List.getElem?_eq_some_iff.1 hi
        rw [List.length_take] at h; omega
      exact hkn i o him (by rw [htake i him] at hi; simpa using hi)
    have hmr : m ∈ Region.ready .any l.toArray listed := by
      refine mem_ready.2 ⟨htl m (Nat.le_refl _) (by omega), o1, by simpa using hl, fun e he hbi => ?_⟩
      have h1 := backB_after hB (show l.toArray[m]? = some o1 by simpa using hl) e he hbi
      have h2 := hall e.on h1
      have h3 : e.on < listed.size := by omega
      simpa [h3] using h2
    cases g with
    | zero => omega
    | succ g =>
      refine ⟨fun hr => (by rw [hr] at hmr; cases hmr), fun i hi => ?_⟩
      obtain ⟨hil, o, ho, _⟩ := mem_ready.1 hi
      have hilt : i < m + 1 := by have := (Array.getElem?_eq_some_iff.1 ho).1; omega
      obtain rfl : i = m := by
        rcases Nat.lt_or_ge i m with h | h
        · have := hall i h
          rw [this] at hil; cases hil
        · omega
      have : o = o1 := Option.some.inj ((show l[i]? = some o by simpa using ho).symm.trans hl)
      subst this
      have hdone : ∀ a' W', wpList P l.toArray Q [] a' W' → wpAny P .any l.toArray Q g (listed.setIfInBounds i true) a' W' := by
        intro a' W' hQ
        have hnone : Region.ready .any l.toArray (listed.setIfInBounds i true) = [] := by
          rw [List.eq_nil_iff_forall_not_mem]
          intro j hj
          obtain ⟨hjl, oj, hoj, _⟩ := mem_ready.1 hj
          have hjlt : j < i + 1 := by have := (Array.getElem?_eq_some_iff.1 hoj).1; omega
          by_cases hij : i = j
          · subst hij
            have : i < listed.size := by omega
            simp [this] at hjl
          · have h2 := hall j (by omega)
            have h3 : (listed.setIfInBounds i true).getD j true = listed.getD j true := by simp [Array.getElem?_setIfInBounds_ne hij]
            rw [h3, h2] at hjl
            cases hjl
        cases g with
        | zero => exact ⟨hnone, hQ⟩
        | succ g => exact ⟨fun _ => hQ, fun j hj => by rw [hnone] at hj; cases hj⟩
      unfold wpOp
      simp only [ho]
      unfold wpList at hW
      split at hW
      · rename_i hwant
        rw [if_pos hwant]
        rcases hW with h | h
        · exact .inl (Oper.wp_mono hdone h)
        · exact .inr h
      · rename_i hwant
        rw [if_neg hwant]
        exact hdone _ _ hW
  · have : cntOff (Array.replicate l.toArray.size false) m ≤ m := by
      unfold cntOff
      exact Nat.le_trans (List.countP_le_length) (by simp)
    omega
  · refine ⟨by simp, ?_, fun j o _ h => ?_, fun i o _ _ h => ?_, rfl, rfl, fun _ _ => rfl, fun t ht ht' => ?_⟩
    · have : lsOf (Array.replicate l.toArray.size false) = fun _ => false := by
        funext k
        exact getD_replicate_false _ _
      rw [this]
      exact hC
    · rw [getD_replicate_false] at h; cases h
    · rw [getD_replicate_false] at h; cases h
    · have h1 : t < l.length := ht'
      simp [h1]
end
end Go.Proofs.Ythfopoeahphnjaa
