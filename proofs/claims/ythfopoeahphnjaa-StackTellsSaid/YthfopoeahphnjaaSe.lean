/- Pop, by its walk. -/
import Derived.Test.YthfopoeahphnjaaSd
import Derived.Test.YthfopoeahphnjaaIz
namespace Go.Proofs.Ythfopoeahphnjaa
open Go.RowKit Go.Shelf
set_option linter.unusedVariables false
set_option linter.unusedSimpArgs false

/-! what is known of an operation's value -/
def pv (x : Value) : Value → World → Prop := fun v _ => v = x
def fsP (fs : List (Value → World → Prop)) : Nat → Value → World → Prop := fun i => fs.getD i (fun _ _ => True)
abbrev Keep (W W' : World) : Prop := Below W.heap.size W W'
def Stable_ (p : Value → World → Prop) : Prop := ∀ v W W', Keep W W' → p v W → p v W'
theorem st_pv (x : Value) : Stable_ (pv x) := fun _ _ _ _ h => h
theorem fsP_st (fs : List (Value → World → Prop)) (h : ∀ p ∈ fs, Stable_ p) : ∀ i v W W', Keep W W' → fsP fs i v W → fsP fs i v W' := by
  intro i v W W' hk hp
  unfold fsP at *
  by_cases hi : i < fs.length
  · have e : fs.getD i (fun _ _ => True) = fs[i] := by simp [List.getD, hi]
    rw [e] at hp ⊢
    exact h _ (List.getElem_mem hi) _ _ _ hk hp
  · have e : fs.getD i (fun _ _ => True) = (fun _ _ => True) := by simp [List.getD, Nat.le_of_not_lt hi]
    rw [e]
    trivial
theorem preds_get {ops : Array Oper} {F : Nat → Value → World → Prop} {a : Act} {W : World} {o : Oper} (hp : Preds ops F a W o) (k : Nat) (o' : Oper) (ho : ops[k]? = some o') (hk : (o.after.toList.any fun e => e.on == k && Region.binds .any e) = true) : F k (got o' a) W := by
  rw [Array.any_toList] at hk
  obtain ⟨e, he, hon⟩ := Array.any_eq_true'.1 hk
  rw [Bool.and_eq_true] at hon
  have hon' : e.on = k := by simpa using hon.1
  subst hon'
  exact hp e he hon.2 o' ho

section
variable {o : Oper} {a : Act} {W : World} {G : Value → World → Prop} {P : Program}
theorem does_run (r : Value) (h : (execOp a.eval o).run P W = .ok (.value r) W) (hG : G r W) : DoesV P o a W G := by
  unfold DoesV
  rw [h]
  exact hG
theorem does_runW (r : Value) (W' : World) (h : (execOp a.eval o).run P W = .ok (.value r) W') (hG : G r W') : DoesV P o a W G := by
  unfold DoesV
  rw [h]
  exact hG
theorem does_enter (f : FuncId) (args : Array Value) (h : (execOp a.eval o).run P W = .ok (.enter f args) W) (hc : Calls P f args W fun e W'' => ∃ v, e = .returned v ∧ G v W'') : DoesV P o a W G := by
  unfold DoesV
  rw [h]
  exact hc
theorem does_move (x : Operand) (r : Value) (ho : o.op = .move x) (ex : a.eval x = r) (hG : G r W) : DoesV P o a W G := does_run r (by simp [execOp, ho, ex]) hG
theorem does_assign (x : Operand) (r : Value) (ho : o.op = .assign x) (ex : a.eval x = r) (hG : G r W) : DoesV P o a W G := does_run r (by simp [execOp, ho, ex]) hG
end
theorem st_nil : ∀ p ∈ ([] : List (Value → World → Prop)), Stable_ p := fun _ h => by cases h
theorem st_cons {p : Value → World → Prop} {fs : List (Value → World → Prop)} (h : Stable_ p) (hs : ∀ q ∈ fs, Stable_ q) : ∀ q ∈ p :: fs, Stable_ q := by
  intro q hq
  rcases List.mem_cons.1 hq with rfl | hq
  · exact h
  · exact hs q hq


/-! a stack cut in two -/
theorem run_take (w : World) (v : Value) (L : List Wd) (m : Nat) (hm : m ≤ L.length) (h : Ws w v L) : ∃ A c, (∀ W, (Instr.sliceAt 27 v none (some (.int .i64 (m : Int))) none).run Try.prog W = .ok (.slice A m c) W) ∧ Ws w (.slice A m c) (L.take m) := by
  have hl := h.len
  rcases h with ⟨rfl, rfl⟩ | ⟨g, off, c, rfl, h2, h3, h4, h5⟩
  · obtain rfl : m = 0 := by simpa using hm
    refine ⟨none, 0, fun W => ?_, Ws.nil_ w⟩
    simp [go_sem]
  · have hmc : m ≤ c := by omega
    have hmc' : (m : Int) ≤ (c : Int) := by omega
    refine ⟨some ⟨g, off, none⟩, c, fun W => ?_, .inr ⟨g, off, c, ?_, ?_, h3, h4, fun j u hu => ?_⟩⟩
    · simp [go_sem, hmc, hmc']
    · rw [List.length_take, Nat.min_eq_left hm]
    · rw [List.length_take]; omega
    · rw [flat_take] at hu
      have hj := (List.getElem?_eq_some_iff.1 hu).1
      rw [List.length_take] at hj
      rw [List.getElem?_take_of_lt (by omega)] at hu
      exact h5 j u hu
theorem run_drop (w : World) (v : Value) (L : List Wd) (m : Nat) (hm : m ≤ L.length) (h : Ws w v L) : ∃ A c, (∀ W, (Instr.sliceAt 27 v (some (.int .i64 (m : Int))) none none).run Try.prog W = .ok (.slice A (L.length - m) c) W) ∧ Ws w (.slice A (L.length - m) c) (L.drop m) := by
  have hl := h.len
  rcases h with ⟨rfl, rfl⟩ | ⟨g, off, c, rfl, h2, h3, h4, h5⟩
  · obtain rfl : m = 0 := by simpa using hm
    refine ⟨none, 0, fun W => ?_, Ws.nil_ w⟩
    simp [go_sem]
  · have hmc : m ≤ c := by omega
    have hml : (m : Int) ≤ (L.length : Int) := by omega
    by_cases hcm : c = m
    · refine ⟨some ⟨g, off, none⟩, c - m, fun W => ?_, .inr ⟨g, off, c - m, ?_, ?_, by omega, h4, fun j u hu => ?_⟩⟩
      · simp [go_sem, hml, hcm]
      · rw [List.length_drop]
      · rw [List.length_drop]; omega
      · rw [List.drop_eq_nil_of_le (by omega)] at hu
        simp [flat] at hu
    · refine ⟨some ⟨g, off + m * 4, none⟩, c - m, fun W => ?_, .inr ⟨g, off + m * 4, c - m, ?_, ?_, by omega, h4, fun j u hu => ?_⟩⟩
      · simp [go_sem, hml, hcm]
      · rw [List.length_drop]
      · rw [List.length_drop]; omega
      · rw [flat_drop, List.getElem?_drop] at hu
        have := h5 (4 * m + j) u hu
        rw [← this]
        congr 2
        omega

/-- 'Pop': how it ends, what stays, what is told. -/
def popE (S : List Wd) (n : Int) : Int := wrongE S.length n 0
def popA (S : List Wd) (n : Int) : List Wd := if popE S n = 0 then S.take (S.length - n.toNat) else S
def popB (S : List Wd) (n : Int) : List Wd := if popE S n = 0 then (S.drop (S.length - n.toNat)).reverse else []
def pws (L : List Wd) : Value → World → Prop := fun v W => Ws W v L
def ptop (d : Value) : Value → World → Prop := fun v W => ∃ g, v = .func (.func 28) #[] #[.pointer (some ⟨g, 0, none⟩)] ∧ Holds_ W g 49 #[d]
theorem st_pws (L : List Wd) : Stable_ (pws L) := fun v W W' hk h => h.later hk
theorem st_ptop (d : Value) : Stable_ (ptop d) := fun v W W' hk ⟨g, e, h⟩ => ⟨g, e, h.below hk h.lt⟩
theorem wrongE_zero (len n least : Int) (h : wrongE len n least = 0) : len ≤ 1024 ∧ least ≤ n ∧ n ≤ len := by
  unfold wrongE at h
  split at h
  · omega
  · split at h <;> omega

set_option maxRecDepth 100000 in
set_option maxHeartbeats 4000000 in
theorem pop_any (v : Value) (S : List Wd) (hS : S.length ≤ 5000) (n : Int) (hn : -9223372036854775808 ≤ n) (hn2 : n ≤ 9223372036854775807) (w : World) (h : Ws w v S) :
    Calls Try.prog 17 #[v, .int .i64 n] w fun e W' => ∃ v1 v2, e = .returned (.tuple #[v1, v2, .int .i64 (popE S n)]) ∧ Ws W' v1 (popA S n) ∧ Ws W' v2 (popB S n) ∧ Below w.heap.size w W' := by
  have hwr := wrong_any v S n 0 w h
  have hcl := clone_any v S (by omega) w h
  unfold popA popB popE
  by_cases he : wrongE S.length n 0 = 0
  · rw [if_pos he, if_pos he]
    obtain ⟨h1, h2, h3⟩ := wrongE_zero _ _ _ he
    rw [he] at hwr ⊢
    obtain ⟨st, hst⟩ : ∃ st, S.length - n.toNat = st := ⟨_, rfl⟩
    rw [hst]
    obtain ⟨A1, c1, ht1, ht2⟩ := run_take w v S st (by omega) h
    obtain ⟨A2, c2, hd1, hd2⟩ := run_drop w v S st (by omega) h
    have hw1 : IntKind.i64.wrap ((S.length : Int) - n) = (st : Int) := (IntWalk.i64_in _ (by omega)).trans (by omega)
    obtain ⟨A, c, rfl, k1, k2, k3⟩ := h.form
    clear hcl
    have hB0 := Below.refl w.heap.size w
    go_enter Try.func17, Try.ntmps17
    go_wp2_with fail
    refine hwr.mono ?_
    rintro e w1 ⟨rfl, rfl⟩
    clear hwr
    go_wp2_with fail
    let C : World → Prop := fun W => Below w.heap.size w W
    have hCk : ∀ W W', Keep W W' → C W → C W' := fun W W' hk h => h.trans (hk.mono h.size)
    refine wp_region_inv C Keep (fsP [pv (.slice A S.length c), pv (.int .i64 (st : Nat)), pv (.slice A1 st c1), pws (S.take st), pv (.slice A S.length c), pv (.int .i64 (st : Nat)), pv (.slice A2 (S.length - st) c2), ptop (.slice A2 (S.length - st) c2), pws (S.drop st).reverse, pws (S.take st), pws (S.drop st).reverse, pv (.int .i64 0)]) (by kernel_rfl) (by kernel_rfl) hB0.drew (fsP_st _ ?st) ?hop ?hfin
    case st => repeat (first | exact st_nil | refine st_cons (st_pv _) ?_ | refine st_cons (st_pws _) ?_ | refine st_cons (st_ptop _) ?_)
    case hop =>
      intro a W hCW hold
      have e0 : a.eval (.tmp 0) = .slice A S.length c := (hold 0 (by decide)).trans rfl
      have e8 : a.eval (.tmp 8) = .int .i64 (st : Nat) := (hold 8 (by decide)).trans rfl
      refine ⟨?_, ?_, ?_, ?_, ?_, ?_, ?_, ?_, ?_, ?_, ?_, ?_, trivial⟩
      · intro hp
        exact does_move _ _ rfl e0 ⟨hCW, Below.refl _ _, rfl⟩
      · intro hp
        exact does_move _ _ rfl e8 ⟨hCW, Below.refl _ _, rfl⟩
      · intro hp
        have e21 := preds_get hp 0 _ rfl rfl
        change a.eval (.tmp 21) = .slice A S.length c at e21
        have e22 := preds_get hp 1 _ rfl rfl
        change a.eval (.tmp 22) = .int .i64 (st : Nat) at e22
        refine does_run _ ?_ ⟨hCW, Below.refl _ _, rfl⟩
        simp only [execOp, e21, e22, Option.map_some, Option.map_none]
        rw [Sem.run_bind, ht1]
        rfl
      · intro hp
        have e23 := preds_get hp 2 _ rfl rfl
        change a.eval (.tmp 23) = .slice A1 st c1 at e23
        refine does_enter 20 #[.slice A1 st c1] ?_ ((clone_any _ _ (by rw [List.length_take]; omega) W (ht2.later hCW)).mono ?_)
        · simp only [execOp, resolve, invoke, List.map_toArray, List.map_cons, List.map_nil, e23]
          simp [go_sem, Act.eval, resolve, invoke]
        · rintro e W' ⟨v', rfl, hW, hb⟩
          exact ⟨_, rfl, hCk _ _ hb hCW, hb, hW⟩
      · intro hp
        exact does_move _ _ rfl e0 ⟨hCW, Below.refl _ _, rfl⟩
      · intro hp
        exact does_move _ _ rfl e8 ⟨hCW, Below.refl _ _, rfl⟩
      · intro hp
        have e25 := preds_get hp 4 _ rfl rfl
        change a.eval (.tmp 25) = .slice A S.length c at e25
        have e26 := preds_get hp 5 _ rfl rfl
        change a.eval (.tmp 26) = .int .i64 (st : Nat) at e26
        refine does_run _ ?_ ⟨hCW, Below.refl _ _, rfl⟩
        simp only [execOp, e25, e26, Option.map_some, Option.map_none]
        rw [Sem.run_bind, hd1]
        rfl
      · intro hp
        have e27 := preds_get hp 6 _ rfl rfl
        change a.eval (.tmp 27) = .slice A2 (S.length - st) c2 at e27
        refine does_enter 25 #[.slice A2 (S.length - st) c2] ?_ ((top_any _ _ _ _ rfl W).mono ?_)
        · simp only [execOp, resolve, invoke, List.map_toArray, List.map_cons, List.map_nil, e27]
          simp [go_sem, Act.eval, resolve, invoke]
        · rintro e W' ⟨rfl, rfl⟩
          have hb : Keep W (W.alloc (.cells #[.slice A2 (S.length - st) c2] 49)) := (Below.refl _ _).alloc (Nat.le_refl _) _
          exact ⟨_, rfl, hCk _ _ hb hCW, hb, _, rfl, Holds_.new W 49 _⟩
      · intro hp
        obtain ⟨g, e28, hg⟩ := (preds_get hp 7 _ rfl rfl : ptop (.slice A2 (S.length - st) c2) _ W)
        change a.eval (.tmp 28) = _ at e28
        refine does_enter 24 #[.func (.func 28) #[] #[.pointer (some ⟨g, 0, none⟩)]] ?_ ((collect_any _ _ (by rw [List.length_drop]; omega) g W (hd2.later hCW) hg).mono ?_)
        · simp only [execOp, resolve, invoke, List.map_toArray, List.map_cons, List.map_nil, e28]
          simp [go_sem, Act.eval, resolve, invoke]
        · rintro e W' ⟨v', rfl, hW, hb⟩
          exact ⟨_, rfl, hCk _ _ hb hCW, hb, hW⟩
      · intro hp
        have e24 := preds_get hp 3 _ rfl rfl
        exact does_assign _ _ rfl rfl ⟨hCW, Below.refl _ _, e24⟩
      · intro hp
        have e29 := preds_get hp 8 _ rfl rfl
        exact does_assign _ _ rfl rfl ⟨hCW, Below.refl _ _, e29⟩
      · intro hp
        exact does_assign _ _ rfl rfl ⟨hCW, Below.refl _ _, rfl⟩
    case hfin =>
      intro z W hCW hall
      obtain ⟨-, -, -, -, -, -, -, -, -, z4, z5, z6, -⟩ := hall
      change Ws W (z 4) _ at z4
      change Ws W (z 5) _ at z5
      change z 6 = _ at z6
      simp only [dsts, List.length_cons, List.length_nil, Nat.reduceAdd, List.take_succ_cons, List.take_zero, List.filterMap_cons, List.filterMap_nil, List.foldl_cons, List.foldl_nil, List.setIfInBounds_toArray, List.set_cons_succ, List.set_cons_zero]
      simp only [z6]
      generalize z 4 = v4 at *
      generalize z 5 = v5 at *
      go_wp2_with fail
      go_ret3
      exact ⟨_, _, rfl, z4, z5, hCW⟩
  · rw [if_neg he, if_neg he]
    have hne : (wrongE S.length n 0 != 0) = true := by rw [bne_iff_ne]; exact he
    generalize wrongE S.length n 0 = ee at *
    obtain ⟨A, c, rfl, k1, k2, k3⟩ := h.form
    go_enter Try.func17, Try.ntmps17
    go_wp2_with fail
    refine hwr.mono ?_
    rintro e w1 ⟨rfl, rfl⟩
    go_wp2_with fail
    refine hcl.mono ?_
    rintro e w1 ⟨v', rfl, hW, hB⟩
    go_wp2_with fail
    go_ret3
    exact ⟨_, _, rfl, hW, Ws.nil_ _, hB⟩
end Go.Proofs.Ythfopoeahphnjaa
