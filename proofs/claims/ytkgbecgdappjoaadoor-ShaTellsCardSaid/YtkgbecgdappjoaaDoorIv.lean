/- Regions that draw their order and whose operations may make memory: each operation is known by what its value is, in every world of a class, and keeps it; whatever order is drawn, at the end all is known. -/
import Derived.Test.YtkgbecgdappjoaaDoorMem
import Derived.BigQuiet
import Derived.StillTail
namespace Go.Proofs.YtkgbecgdappjoaaDoor
open Go.RowKit Go.Shelf
set_option linter.unusedVariables false
set_option linter.unusedSimpArgs false

/-- What an operation does, carried out in a frame and a world: it yields a value, or calls and is handed one. -/
def DoesV (P : Program) (o : Oper) (a : Act) (W : World) (G : Value → World → Prop) : Prop :=
  match (execOp a.eval o).run P W with
  | .ok (.value v) W' => G v W'
  | .ok .skip W' => G undef W'
  | .ok (.enter f args) W' => Calls P f args W' fun e W'' => ∃ v, e = .returned v ∧ G v W''
  | _ => False

section
variable {P : Program} {ops : Array Oper} {md : Region.Mode} {C : World → Prop} {R : World → World → Prop} {F : Nat → Value → World → Prop} {a0 : Act} {n : Nat}

theorem wp_of_does {o : Oper} {a : Act} {W : World} {G : Value → World → Prop} {K : Act → World → Prop} {Q : Exit → Act → World → Prop} (h : DoesV P o a W G) (hK : ∀ v W', G v W' → K (a.put o.dst v) W') : o.wp P a W K Q := by
  unfold DoesV at h
  unfold Oper.wp
  generalize (execOp a.eval o).run P W = r at *
  cases r with
  | halt x w' => exact h.elim
  | ok x w' =>
    cases x <;> simp only [Oper.upon] at h ⊢
    case value v => exact hK v w' h
    case skip => exact hK undef w' h
    case enter f args =>
      refine h.mono ?_
      rintro e w'' ⟨v, rfl, hG⟩
      exact hK v w'' hG
    all_goals exact h.elim

/-- What the slot of an operation holds. -/
def got (o : Oper) (a : Act) : Value := match o.dst with | some d => a.tmps.getD d undef | none => undef

structure RegInv (ops : Array Oper) (C : World → Prop) (F : Nat → Value → World → Prop) (a0 : Act) (n : Nat) (listed : Array Bool) (a : Act) (W : World) : Prop where
  size : listed.size = ops.size
  cls : C W
  known : ∀ i o, i < n → ops[i]? = some o → listed.getD i false = true → F i (got o a) W
  tmps : a.tmps.size = a0.tmps.size
  defers : a.defers = a0.defers
  old : ∀ s, (∀ i o, ops[i]? = some o → i < n → o.dst ≠ some s) → a.tmps.getD s undef = a0.tmps.getD s undef
  tail : ∀ t, n ≤ t → t < ops.size → listed.getD t true = false

theorem put_getD (a : Act) (d : Option Tmp) (v : Value) (s : Nat) : (a.put d v).tmps.getD s undef = if d = some s ∧ s < a.tmps.size then v else a.tmps.getD s undef := by
  cases d with
  | none => simp [Act.put]
  | some d =>
    simp only [Act.put]
    by_cases h : d = s
    · subst h
      by_cases h2 : d < a.tmps.size
      · simp [h2]
      · simp [h2, Array.getElem?_eq_none (Nat.le_of_not_lt h2)]
    · simp [h, Array.getElem?_setIfInBounds_ne h]
theorem put_size (a : Act) (d : Option Tmp) (v : Value) : (a.put d v).tmps.size = a.tmps.size := by cases d <;> simp [Act.put]
theorem put_defers (a : Act) (d : Option Tmp) (v : Value) : (a.put d v).defers = a.defers := by cases d <;> simp [Act.put]

def cntOff (listed : Array Bool) (m : Nat) : Nat := (List.range m).countP fun i => !listed.getD i true
theorem countP_lt {A : Type} (p q : A → Bool) (hpq : ∀ x, q x = true → p x = true) (i : A) (hp : p i = true) (hq : q i = false) : ∀ L : List A, i ∈ L → L.countP q < L.countP p
  | x :: L, h => by
    have hle : L.countP q ≤ L.countP p := List.countP_mono_left fun x _ => hpq x
    rw [List.countP_cons, List.countP_cons]
    by_cases hx : x = i
    · subst hx
      rw [hp, hq]
      simp
      omega
    · have hm : i ∈ L := by
        rcases List.mem_cons.1 h with h | h
        · exact absurd h.symm hx
        · exact h
      have := countP_lt p q hpq i hp hq L hm
      have h2 : (if q x = true then 1 else 0) ≤ (if p x = true then 1 else 0) := by
        by_cases hqx : q x = true
        · rw [if_pos hqx, if_pos (hpq x hqx)]; exact Nat.le_refl _
        · rw [if_neg hqx]; omega
      omega
theorem cntOff_set (listed : Array Bool) (m i : Nat) (hi : i < m) (hs : i < listed.size) (hu : listed.getD i true = false) : cntOff (listed.setIfInBounds i true) m < cntOff listed m := by
  unfold cntOff
  refine countP_lt _ _ ?_ i (by simp only [hu]; rfl) ?_ _ (List.mem_range.2 hi)
  · intro x hx
    by_cases h : i = x
    · subst h; simp [hs] at hx
    · simpa [Array.getElem?_setIfInBounds_ne h] using hx
  · simp [hs]
theorem cntOff_zero (listed : Array Bool) (m : Nat) (h : cntOff listed m = 0) : ∀ i, i < m → listed.getD i true = true := by
  intro i hi
  have := List.countP_eq_zero.1 h i (List.mem_range.2 hi)
  simpa using this

/-- The edges of a region point backward, nothing in its head is guarded, its head's operations write slots of their own within the frame, and what stands behind the head waits for all of it. -/
def Region.backB (ops : Array Oper) (n size : Nat) : Bool :=
  (List.range ops.size).all (fun i => match ops[i]? with
    | none => true
    | some o => (o.after.all fun e => decide (e.on < i)) && (decide (n ≤ i) || (o.guard.isNone && (match o.dst with | none => true | some d => decide (d < size)) &&
      (List.range n).all fun j => decide (j = i) || (match o.dst, (ops[j]?).bind (·.dst) with | some d, some d' => decide (d ≠ d') | _, _ => true))))

theorem backB_after (h : Region.backB ops n a0.tmps.size = true) {i : Nat} {o : Oper} (hi : ops[i]? = some o) : ∀ e ∈ o.after, e.on < i := by
  have hlt : i < ops.size := (Array.getElem?_eq_some_iff.1 hi).1
  have h1 := List.all_eq_true.1 h i (List.mem_range.2 hlt)
  simp only [hi, Bool.and_eq_true] at h1
  intro e he
  have := Array.all_eq_true'.1 h1.1 e he
  simpa using this
theorem backB_head (h : Region.backB ops n a0.tmps.size = true) {i : Nat} {o : Oper} (hi : ops[i]? = some o) (hn : i < n) :
    o.guard = none ∧ (∀ d, o.dst = some d → d < a0.tmps.size) ∧ ∀ j o', ops[j]? = some o' → j < n → j ≠ i → ∀ d, o.dst = some d → o'.dst ≠ some d := by
  have hlt : i < ops.size := (Array.getElem?_eq_some_iff.1 hi).1
  have h1 := List.all_eq_true.1 h i (List.mem_range.2 hlt)
  simp only [hi, Bool.and_eq_true, Bool.or_eq_true, decide_eq_true_eq] at h1
  rcases h1.2 with h2 | h2
  · omega
  refine ⟨by simpa using h2.1.1, ?_, ?_⟩
  · intro d hd
    have := h2.1.2
    rw [hd] at this
    simpa using this
  · intro j o' hj hjn hji d hd hd'
    have h3 := List.all_eq_true.1 h2.2 j (List.mem_range.2 hjn)
    simp only [Bool.or_eq_true, decide_eq_true_eq, hd, hj, Option.bind_some, hd'] at h3
    rcases h3 with h3 | h3
    · exact hji h3
    · simp at h3

theorem ready_or_done (h : Region.backB ops n a0.tmps.size = true) {listed : Array Bool} (hs : listed.size = ops.size) (hr : Region.ready md ops listed = []) : ∀ i, i < ops.size → listed.getD i true = true := by
  intro i
  induction i using Nat.strongRecOn with
  | _ i ih =>
    intro hi
    cases hl : listed.getD i true with
    | true => rfl
    | false =>
      exfalso
      obtain ⟨o, ho⟩ : ∃ o, ops[i]? = some o := ⟨ops[i], by simp [hi]⟩
      have hm : i ∈ Region.ready md ops listed := by
        refine mem_ready.2 ⟨hl, o, ho, fun e he hb => ?_⟩
        have hlt := backB_after h ho e he
        have := ih e.on hlt (by omega)
        have hsz : e.on < listed.size := by omega
        simpa [hsz] using this
      rw [hr] at hm
      cases hm

/-- WHATEVER ORDER IS DRAWN. -/
theorem wpAny_inv {Q : Exit → Act → World → Prop} (hB : Region.backB ops n a0.tmps.size = true) (hn : n ≤ ops.size)
    (hst : ∀ i v W W', R W W' → F i v W → F i v W')
    (hop : ∀ i o a W, i < n → ops[i]? = some o → C W → a.tmps.size = a0.tmps.size → (∀ s, (∀ j o', ops[j]? = some o' → j < n → o'.dst ≠ some s) → a.tmps.getD s undef = a0.tmps.getD s undef) →
      (∀ j o', ops[j]? = some o' → (∃ e ∈ o.after, Region.binds md e = true ∧ e.on = j) → F j (got o' a) W) → DoesV P o a W fun v W' => C W' ∧ R W W' ∧ F i (if o.dst = none then undef else v) W')
    (hwait : ∀ t o, n ≤ t → ops[t]? = some o → ∀ i, i < n → ∃ e ∈ o.after, Region.binds md e = true ∧ e.on = i)
    (hend : ∀ g listed a W, ops.size ≤ g + n → listed.size = ops.size → (∀ i, i < n → listed.getD i true = true) → (∀ t, n ≤ t → t < ops.size → listed.getD t true = false) → C W → a.tmps.size = a0.tmps.size → a.defers = a0.defers →
      (∀ s, (∀ j o', ops[j]? = some o' → j < n → o'.dst ≠ some s) → a.tmps.getD s undef = a0.tmps.getD s undef) → (∀ i o, i < n → ops[i]? = some o → F i (got o a) W) → wpAny P md ops Q g listed a W) :
    ∀ (fuel : Nat) (listed : Array Bool) (a : Act) (W : World), cntOff listed n + (ops.size - n) ≤ fuel → RegInv ops C F a0 n listed a W → wpAny P md ops Q fuel listed a W := by
  have fin : ∀ (fuel : Nat) (listed : Array Bool) (a : Act) (W : World), cntOff listed n = 0 → ops.size - n ≤ fuel → RegInv ops C F a0 n listed a W → wpAny P md ops Q fuel listed a W := by
    intro fuel listed a W h0 hf inv
    have hall := cntOff_zero listed n h0
    refine hend fuel listed a W (by omega) inv.size hall inv.tail inv.cls inv.tmps inv.defers inv.old fun i o hi ho => inv.known i o hi ho ?_
    have h1 := hall i hi
    have hlt : i < listed.size := by rw [inv.size]; omega
    simpa [hlt] using h1
  intro fuel
  induction fuel with
  | zero => intro listed a W hc inv; exact fin 0 listed a W (by omega) (by omega) inv
  | succ fuel ih =>
    intro listed a W hc inv
    by_cases h0 : cntOff listed n = 0
    · exact fin _ listed a W h0 (by omega) inv
    obtain ⟨u, hun, hu⟩ : ∃ u, u < n ∧ listed.getD u true = false := by
      rcases Classical.em (∃ u, u < n ∧ listed.getD u true = false) with h | h
      · exact h
      · exfalso
        apply h0
        unfold cntOff
        rw [List.countP_eq_zero]
        intro x hx
        have hx' := List.mem_range.1 hx
        cases hl : listed.getD x true with
        | true => simp
        | false => exact absurd ⟨x, hx', hl⟩ h
    refine ⟨fun hr => ?_, fun i hi => ?_⟩
    · have := ready_or_done hB inv.size hr u (by omega)
      rw [hu] at this
      cases this
    · obtain ⟨hil, o, ho, hall⟩ := mem_ready.1 hi
      have hilt : i < ops.size := (Array.getElem?_eq_some_iff.1 ho).1
      have hin : i < n := by
        rcases Nat.lt_or_ge i n with h | h
        · exact h
        · exfalso
          obtain ⟨e, he, hb, hon⟩ := hwait i o h ho u hun
          have h1 := hall e he hb
          rw [hon] at h1
          have hus : u < listed.size := by rw [inv.size]; omega
          simp [hus] at h1 hu
          rw [hu] at h1; cases h1
      obtain ⟨hg, hdl, hdd⟩ := backB_head hB ho hin
      unfold wpOp
      simp only [ho]
      rw [if_pos (by unfold Region.wanted; rw [hg])]
      left
      refine wp_of_does (hop i o a W hin ho inv.cls inv.tmps inv.old fun j o' hj ⟨e, he, hb, hon⟩ => inv.known j o' (by have := backB_after hB ho e he; omega) hj (by rw [← hon]; exact hall e he hb)) ?_
      rintro v W' ⟨hC', hR, hF⟩
      have hisz : i < listed.size := by rw [inv.size]; exact hilt
      have hcl := cntOff_set listed n i hin hisz hil
      refine ih _ _ _ (by omega) ⟨by simp [inv.size], hC', fun j oj hjn hj hl => ?_, by rw [put_size]; exact inv.tmps, by rw [put_defers]; exact inv.defers, fun s hs => ?_, fun t ht ht' => ?_⟩
      · by_cases hij : i = j
        · subst hij
          have : oj = o := Option.some.inj (hj.symm.trans ho)
          subst this
          have hgot : got oj (a.put oj.dst v) = if oj.dst = none then undef else v := by
            unfold got
            cases hd : oj.dst with
            | none => simp
            | some d =>
              have hds := hdl d hd
              simp only [put_getD, inv.tmps, hds, and_true, if_true]
              simp
          rw [hgot]
          exact hF
        · have hl' : listed.getD j false = true := by simpa [Array.getElem?_setIfInBounds_ne hij] using hl
          have hk := hst j _ W W' hR (inv.known j oj hjn hj hl')
          have hgot : got oj (a.put o.dst v) = got oj a := by
            unfold got
            cases hd : oj.dst with
            | none => rfl
            | some d =>
              have hne : o.dst ≠ some d := fun h => hdd j oj hj hjn (fun h' => hij h'.symm) d h hd
              simp only [put_getD, hne, false_and, if_false]
          rw [hgot]
          exact hk
      · rw [put_getD, if_neg (fun h => hs i o ho hin h.1)]
        exact inv.old s hs
      · have : i ≠ t := by omega
        have h9 := inv.tail t ht ht'
        simpa [Array.getElem?_setIfInBounds_ne this] using h9

/-- Of each operation of a list, by its place. -/
def OpsAll (p : Nat → Oper → Prop) : Nat → List Oper → Prop
  | _, [] => True
  | k, o :: l => p k o ∧ OpsAll p (k + 1) l
theorem opsAll_get {p : Nat → Oper → Prop} : ∀ {l : List Oper} {k : Nat}, OpsAll p k l → ∀ i o, l[i]? = some o → p (k + i) o
  | [], _, _, _, _, h => by cases h
  | o :: l, k, h, 0, o', h' => by
    have e : o = o' := by simpa using h'
    subst e
    exact h.1
  | o :: l, k, h, i + 1, o', h' => by
    have := opsAll_get h.2 i o' (by simpa using h')
    rwa [show k + 1 + i = k + (i + 1) from by omega] at this
/-- What is known of the operations that an operation waits for. -/
def Preds (ops : Array Oper) (F : Nat → Value → World → Prop) (a : Act) (W : World) (o : Oper) : Prop := ∀ e ∈ o.after, ∀ o', ops[e.on]? = some o' → F e.on (got o' a) W
/-- The slots of a region's head. -/
def dsts (l : List Oper) (n : Nat) : List Tmp := (l.take n).filterMap (·.dst)
theorem dsts_mem {l : List Oper} {n : Nat} {s : Tmp} (h : s ∉ dsts l n) : ∀ j o, l.toArray[j]? = some o → j < n → o.dst ≠ some s := by
  intro j o hj hjn hd
  apply h
  unfold dsts
  rw [List.mem_filterMap]
  refine ⟨o, ?_, hd⟩
  have hj' : l[j]? = some o := by simpa using hj
  rw [List.mem_take_iff_getElem]
  obtain ⟨hlt, he⟩ := List.getElem?_eq_some_iff.1 hj'
  exact ⟨j, by omega, he⟩
theorem act_puts (a a0 : Act) (ds : List Tmp) (hs : a.tmps.size = a0.tmps.size) (hd : a.defers = a0.defers) (ho : ∀ s, s ∉ ds → a.tmps.getD s undef = a0.tmps.getD s undef) :
    a = { tmps := ds.foldl (fun t d => t.setIfInBounds d (a.tmps.getD d undef)) a0.tmps, defers := a0.defers } := by
  suffices h : a.tmps = ds.foldl (fun t d => t.setIfInBounds d (a.tmps.getD d undef)) a0.tmps by
    obtain ⟨t, d⟩ := a
    simp only at h hd
    rw [← h, ← hd]
  have key : ∀ (ds : List Tmp) (t : Array Value), t.size = a.tmps.size → (∀ s, s ∉ ds → a.tmps.getD s undef = t.getD s undef) → a.tmps = ds.foldl (fun t d => t.setIfInBounds d (a.tmps.getD d undef)) t := by
    intro ds
    induction ds with
    | nil =>
      intro t ht h
      apply Array.ext ht.symm
      intro i h1 h2
      have := h i (by simp)
      simpa [h1, h2] using this
    | cons d ds ih =>
      intro t ht h
      refine ih _ (by simp [ht]) fun s hsd => ?_
      by_cases hds : d = s
      · subst hds
        by_cases h2 : d < t.size
        · simp [h2]
        · have h3 : ¬ d < a.tmps.size := by rw [← ht]; exact h2
          simp [Array.getElem?_eq_none (Nat.le_of_not_lt h2), Array.getElem?_eq_none (Nat.le_of_not_lt h3)]
      · have := h s (by simp [hsd]; exact fun h => hds h.symm)
        rw [this]
        simp [Array.getElem?_setIfInBounds_ne hds]
  exact key ds a0.tmps hs.symm ho

/-- A REGION THAT DRAWS, none of it a tail. -/
theorem wp_region_inv {id : Nat} {Q : Exit → Act → World → Prop} {w : World} {l : List Oper} (C : World → Prop) (R : World → World → Prop) (F : Nat → Value → World → Prop) (hm : P.follows .mixedOrders = true)
    (hB : Region.backB l.toArray l.length a0.tmps.size = true) (hb : l.all (fun o => o.after.all fun e => Region.binds .any e) = true) (hC : C w.drew) (hst : ∀ i v W W', R W W' → F i v W → F i v W')
    (hop : ∀ a W, C W → (∀ s, s ∉ dsts l l.length → a.tmps.getD s undef = a0.tmps.getD s undef) → OpsAll (fun i o => Preds l.toArray F a W o → DoesV P o a W fun v W' => C W' ∧ R W W' ∧ F i (if o.dst = none then undef else v) W') 0 l)
    (hfin : ∀ (v : Nat → Value) W, C W → OpsAll (fun i o => F i (match o.dst with | some d => v d | none => undef) W) 0 l → Q .normal { tmps := (dsts l l.length).foldl (fun t d => t.setIfInBounds d (v d)) a0.tmps, defers := a0.defers } W) :
    (Code.region id l.toArray true).wp P Q a0 w := by
  have hsz : l.toArray.size = l.length := rfl
  refine wp_region_any hm ?_
  refine wpAny_inv (C := C) (R := R) (F := F) (a0 := a0) (n := l.length) hB (Nat.le_refl _) hst ?_ ?_ ?_ _ _ _ _ ?_ ?_
  · intro i o a W hi ho hCW _ hold hpre
    have h := opsAll_get (hop a W hCW fun s hs => hold s fun j o' hj hjn => dsts_mem hs j o' hj hjn) i o (by simpa using ho)
    rw [Nat.zero_add] at h
    refine h fun e he o' ho' => hpre e.on o' ho' ⟨e, he, ?_, rfl⟩
    have hmem : o ∈ l := List.mem_of_getElem? (show l[i]? = some o by simpa using ho)
    have h1 := List.all_eq_true.1 hb o hmem
    exact Array.all_eq_true'.1 h1 e he
  · intro t o ht hto
    have := (Array.getElem?_eq_some_iff.1 hto).1
    omega
  · intro g listed a W hg hls hall _ hCW hts hdf hold hkn
    have hQ : Q .normal a W := by
      rw [act_puts a a0 (dsts l l.length) hts hdf fun s hs => hold s fun j o' hj hjn => dsts_mem hs j o' hj hjn]
      refine hfin (fun d => a.tmps.getD d undef) W hCW ?_
      have all : ∀ (m : List Oper) (k : Nat), (∀ i o, m[i]? = some o → F (k + i) (got o a) W) → OpsAll (fun i o => F i (match o.dst with | some d => a.tmps.getD d undef | none => undef) W) k m := by
        intro m
        induction m with
        | nil => intro k _; trivial
        | cons o m ih =>
          intro k h
          refine ⟨h 0 o rfl, ih (k + 1) fun i o' hi => ?_⟩
          have := h (i + 1) o' (by simpa using hi)
          rwa [show k + (i + 1) = k + 1 + i from by omega] at this
      exact all l 0 fun i o hi => by
        rw [Nat.zero_add]
        exact hkn i o (by obtain ⟨h, _⟩ := List.getElem?_eq_some_iff.1 hi; exact h) (by simpa using hi)
    have hnone : Region.ready .any l.toArray listed = [] := by
      rw [List.eq_nil_iff_forall_not_mem]
      intro i hi
      obtain ⟨hil, o, ho, _⟩ := mem_ready.1 hi
      have := hall i (Array.getElem?_eq_some_iff.1 ho).1
      rw [this] at hil
      cases hil
    cases g with
    | zero => exact ⟨hnone, hQ⟩
    | succ g => exact ⟨fun _ => hQ, fun i hi => by rw [hnone] at hi; cases hi⟩
  · have : cntOff (Array.replicate l.toArray.size false) l.length ≤ l.length := by
      unfold cntOff
      exact Nat.le_trans (List.countP_le_length) (by simp)
    simp only [hsz]
    simp only [hsz] at this
    omega
  · refine ⟨by simp, hC, fun i o _ _ h => ?_, rfl, rfl, fun _ _ => rfl, fun t ht ht' => ?_⟩
    · rw [getD_replicate_false] at h; cases h
    · simp only [hsz] at ht'; omega

/-- A REGION THAT DRAWS, with one operation at its end that waits for all the others. -/
theorem wp_region_inv_tail {id : Nat} {Q : Exit → Act → World → Prop} {w : World} {l : List Oper} (m : Nat) (o1 : Oper) (C : World → Prop) (R : World → World → Prop) (F : Nat → Value → World → Prop) (hm : P.follows .mixedOrders = true)
    (hl : l[m]? = some o1) (hlen : l.length = m + 1) (hw : (List.range m).all (fun i => o1.after.any fun e => e.on == i) = true)
    (hB : Region.backB l.toArray m a0.tmps.size = true) (hb : l.all (fun o => o.after.all fun e => Region.binds .any e) = true) (hC : C w.drew) (hst : ∀ i v W W', R W W' → F i v W → F i v W')
    (hop : ∀ a W, C W → (∀ s, s ∉ dsts l m → a.tmps.getD s undef = a0.tmps.getD s undef) → OpsAll (fun i o => Preds l.toArray F a W o → DoesV P o a W fun v W' => C W' ∧ R W W' ∧ F i (if o.dst = none then undef else v) W') 0 (l.take m))
    (hfin : ∀ (v : Nat → Value) W, C W → OpsAll (fun i o => F i (match o.dst with | some d => v d | none => undef) W) 0 (l.take m) → wpList P l.toArray Q [o1] { tmps := (dsts l m).foldl (fun t d => t.setIfInBounds d (v d)) a0.tmps, defers := a0.defers } W) :
    (Code.region id l.toArray true).wp P Q a0 w := by
  have hsz : l.toArray.size = m + 1 := hlen
  have hbind : ∀ (i : Nat) (o : Oper), l[i]? = some o → ∀ e ∈ o.after, Region.binds .any e = true := fun i o ho e he =>
    Array.all_eq_true'.1 (List.all_eq_true.1 hb o (List.mem_of_getElem? ho)) e he
  have htake : ∀ i, i < m → (l.take m)[i]? = l[i]? := fun i hi => by rw [List.getElem?_take, if_pos hi]
  refine wp_region_any hm ?_
  refine wpAny_inv (C := C) (R := R) (F := F) (a0 := a0) (n := m) hB (by omega) hst ?_ ?_ ?_ _ _ _ _ ?_ ?_
  · intro i o a W hi ho hCW _ hold hpre
    have h := opsAll_get (hop a W hCW fun s hs => hold s fun j o' hj hjn => dsts_mem hs j o' hj hjn) i o (by rw [htake i hi]; simpa using ho)
    rw [Nat.zero_add] at h
    exact h fun e he o' ho' => hpre e.on o' ho' ⟨e, he, hbind i o (by simpa using ho) e he, rfl⟩
  · intro t o ht hto i hi
    have hlt := (Array.getElem?_eq_some_iff.1 hto).1
    obtain rfl : t = m := by omega
    have : o = o1 := Option.some.inj ((show l[t]? = some o by simpa using hto).symm.trans hl)
    subst this
    obtain ⟨e, he, hon⟩ := Array.any_eq_true'.1 (List.all_eq_true.1 hw i (List.mem_range.2 hi))
    exact ⟨e, he, hbind t o hl e he, by simpa using hon⟩
  · intro g listed a W hg hls hall htl hCW hts hdf hold hkn
    have hW : wpList P l.toArray Q [o1] a W := by
      rw [act_puts a a0 (dsts l m) hts hdf fun s hs => hold s fun j o' hj hjn => dsts_mem hs j o' hj hjn]
      refine hfin (fun d => a.tmps.getD d undef) W hCW ?_
      have all : ∀ (q : List Oper) (k : Nat), (∀ i o, q[i]? = some o → F (k + i) (got o a) W) → OpsAll (fun i o => F i (match o.dst with | some d => a.tmps.getD d undef | none => undef) W) k q := by
        intro q
        induction q with
        | nil => intro k _; trivial
        | cons o q ih =>
          intro k h
          refine ⟨h 0 o rfl, ih (k + 1) fun i o' hi => ?_⟩
          have := h (i + 1) o' (by simpa using hi)
          rwa [show k + (i + 1) = k + 1 + i from by omega] at this
      refine all (l.take m) 0 fun i o hi => ?_
      rw [Nat.zero_add]
      have him : i < m := by
        obtain ⟨h, _⟩ := List.getElem?_eq_some_iff.1 hi
        rw [List.length_take] at h; omega
      exact hkn i o him (by rw [htake i him] at hi; simpa using hi)
    have hmr : m ∈ Region.ready .any l.toArray listed := by
      refine mem_ready.2 ⟨htl m (Nat.le_refl _) (by omega), o1, by simpa using hl, fun e he _ => ?_⟩
      have h1 := backB_after hB (show l.toArray[m]? = some o1 by simpa using hl) e he
      have h2 := hall e.on h1
      have h3 : e.on < listed.size := by omega
      simpa [h3] using h2
    cases g with
    | zero => omega
    | succ g =>
      refine ⟨fun hr => (by rw [hr] at hmr; cases hmr), fun i hi => ?_⟩
      obtain ⟨hil, o, ho, _⟩ := mem_ready.1 hi
      have hilt : i < m + 1 := by have := (Array.getElem?_eq_some_iff.1 ho).1; omega
      obtain rfl : i = m := by
        rcases Nat.lt_or_ge i m with h | h
        · have := hall i h
          rw [this] at hil; cases hil
        · omega
      have : o = o1 := Option.some.inj ((show l[i]? = some o by simpa using ho).symm.trans hl)
      subst this
      have hdone : ∀ a' W', wpList P l.toArray Q [] a' W' → wpAny P .any l.toArray Q g (listed.setIfInBounds i true) a' W' := by
        intro a' W' hQ
        have hnone : Region.ready .any l.toArray (listed.setIfInBounds i true) = [] := by
          rw [List.eq_nil_iff_forall_not_mem]
          intro j hj
          obtain ⟨hjl, oj, hoj, _⟩ := mem_ready.1 hj
          have hjlt : j < i + 1 := by have := (Array.getElem?_eq_some_iff.1 hoj).1; omega
          by_cases hij : i = j
          · subst hij
            have : i < listed.size := by omega
            simp [this] at hjl
          · have h2 := hall j (by omega)
            have h3 : (listed.setIfInBounds i true).getD j true = listed.getD j true := by simp [Array.getElem?_setIfInBounds_ne hij]
            rw [h3, h2] at hjl
            cases hjl
        cases g with
        | zero => exact ⟨hnone, hQ⟩
        | succ g => exact ⟨fun _ => hQ, fun j hj => by rw [hnone] at hj; cases hj⟩
      unfold wpOp
      simp only [ho]
      unfold wpList at hW
      split at hW
      · rename_i hwant
        rw [if_pos hwant]
        rcases hW with h | h
        · exact .inl (Oper.wp_mono hdone h)
        · exact .inr h
      · rename_i hwant
        rw [if_neg hwant]
        exact hdone _ _ hW
  · have : cntOff (Array.replicate l.toArray.size false) m ≤ m := by
      unfold cntOff
      exact Nat.le_trans (List.countP_le_length) (by simp)
    omega
  · refine ⟨by simp, hC, fun i o _ _ h => ?_, rfl, rfl, fun _ _ => rfl, fun t ht ht' => ?_⟩
    · rw [getD_replicate_false] at h; cases h
    · have h1 : t < l.length := ht'
      simp [h1]
end
end Go.Proofs.YtkgbecgdappjoaaDoor
