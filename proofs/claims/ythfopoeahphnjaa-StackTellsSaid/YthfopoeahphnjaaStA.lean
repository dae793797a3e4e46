/- Words of four numbers, and slices of them as they read in memory. -/
import Derived.Test.YthfopoeahphnjaaProg
import Derived.Test.YthfopoeahphnjaaSl
import Derived.Test.YthfopoeahphnjaaQu
namespace Go.Proofs.Ythfopoeahphnjaa
open Go.RowKit Go.Shelf
set_option linter.unusedVariables false
set_option linter.unusedSimpArgs false

abbrev Wd := Nat × Nat × Nat × Nat
def encW (x : Wd) : List Value := [.int .u64 (x.1 : Nat), .int .u64 (x.2.1 : Nat), .int .u64 (x.2.2.1 : Nat), .int .u64 (x.2.2.2 : Nat)]
def wdV (x : Wd) : Array Value := (encW x).toArray
def flat (L : List Wd) : List Value := L.flatMap encW
theorem encW_length (x : Wd) : (encW x).length = 4 := rfl
theorem wdV_size (x : Wd) : (wdV x).size = 4 := rfl
theorem wdV_one (x : Wd) : (wdV x).all (·.oneCell') = true := by simp [wdV, encW, Value.oneCell']
theorem flat_length (L : List Wd) : (flat L).length = 4 * L.length := by
  induction L with
  | nil => rfl
  | cons x L ih => simp only [flat, List.flatMap_cons, List.length_append, List.length_cons, encW_length] at *; omega
theorem flat_append (L M : List Wd) : flat (L ++ M) = flat L ++ flat M := by simp [flat]
theorem flat_one (x : Wd) : flat [x] = encW x := by simp [flat]
theorem flat_ok (L : List Wd) : ∀ u ∈ flat L, u.oneCell' = true := by
  intro u hu
  obtain ⟨x, _, hx⟩ := List.mem_flatMap.1 hu
  simp only [encW, List.mem_cons, List.not_mem_nil, or_false] at hx
  rcases hx with rfl | rfl | rfl | rfl <;> rfl
theorem flat_drop (L : List Wd) (m : Nat) : flat (L.drop m) = (flat L).drop (4 * m) := by
  induction L generalizing m with
  | nil => simp [flat]
  | cons x L ih =>
    cases m with
    | zero => simp
    | succ m =>
      have h : flat (x :: L) = encW x ++ flat L := by simp [flat]
      rw [List.drop_succ_cons, ih, h, show 4 * (m + 1) = (encW x).length + 4 * m from by rw [encW_length]; omega, List.drop_append]
      simp
theorem flat_take (L : List Wd) (m : Nat) : flat (L.take m) = (flat L).take (4 * m) := by
  induction L generalizing m with
  | nil => simp [flat]
  | cons x L ih =>
    cases m with
    | zero => simp [flat]
    | succ m =>
      have h : flat (x :: L) = encW x ++ flat L := by simp [flat]
      have h' : flat (x :: L.take m) = encW x ++ flat (L.take m) := by simp [flat]
      rw [List.take_succ_cons, h, h', ih, show 4 * (m + 1) = (encW x).length + 4 * m from by rw [encW_length]; omega, List.take_append, List.take_of_length_le (Nat.le_add_right _ _)]
      simp
theorem flat_get (L : List Wd) (i : Nat) (x : Wd) (hx : L[i]? = some x) (j : Nat) (hj : j < 4) : (flat L)[4 * i + j]? = (encW x)[j]? := by
  have hi : i < L.length := (List.getElem?_eq_some_iff.1 hx).1
  have h1 : (flat (L.drop i))[j]? = (flat L)[4 * i + j]? := by rw [flat_drop, List.getElem?_drop]
  rw [← h1]
  have h2 : L.drop i = x :: L.drop (i + 1) := by
    rw [List.drop_eq_getElem_cons hi]
    congr 1
    exact (List.getElem?_eq_some_iff.1 hx).2
  rw [h2]
  have h : flat (x :: L.drop (i + 1)) = encW x ++ flat (L.drop (i + 1)) := by simp [flat]
  rw [h, List.getElem?_append_left (by rw [encW_length]; exact hj)]
theorem wdV_inj {x y : Wd} (h : wdV x = wdV y) : x = y := by
  have h' : encW x = encW y := by simpa [wdV] using h
  simp only [encW, List.cons.injEq, Value.int.injEq, true_and, and_true] at h'
  obtain ⟨x1, x2, x3, x4⟩ := x
  obtain ⟨y1, y2, y3, y4⟩ := y
  simp only at h'
  obtain ⟨a, b, c, d⟩ := h'
  have := Int.ofNat.inj a
  have := Int.ofNat.inj b
  have := Int.ofNat.inj c
  have := Int.ofNat.inj d
  simp_all

/-- The slice v reads as L. -/
def Ws (w : World) (v : Value) (L : List Wd) : Prop :=
  (v = .slice none 0 0 ∧ L = []) ∨ ∃ g off c, v = .slice (some ⟨g, off, none⟩) L.length c ∧ L.length ≤ c ∧ c ≤ maxLen ∧ g < w.heap.size ∧ ∀ j u, (flat L)[j]? = some u → w.cell? ⟨g, off + j, none⟩ = some u
section
variable {w w' : World} {v : Value} {L : List Wd}
theorem Ws.nil_ (w : World) : Ws w (.slice none 0 0) [] := .inl ⟨rfl, rfl⟩
theorem Ws.below {B : Nat} (h : Ws w v L) (hb : Below B w w') (hB : w.heap.size ≤ B) : Ws w' v L := by
  rcases h with h | ⟨g, off, c, h1, h2, h3, h4, h5⟩
  · exact .inl h
  · exact .inr ⟨g, off, c, h1, h2, h3, Nat.lt_of_lt_of_le h4 hb.size, fun j u hu => (hb.cell (p := ⟨g, off + j, none⟩) (Nat.lt_of_lt_of_le h4 hB)).trans (h5 j u hu)⟩
theorem Ws.later (h : Ws w v L) (hb : Below w.heap.size w w') : Ws w' v L := h.below hb (Nat.le_refl _)
theorem Ws.alloc (h : Ws w v L) (o : Obj) : Ws (w.alloc o) v L := h.later ((Below.refl _ _).alloc (Nat.le_refl _) _)
theorem Ws.drew (h : Ws w v L) : Ws w.drew v L := h
theorem Ws.form (h : Ws w v L) : ∃ A c, v = .slice A L.length c ∧ L.length ≤ c ∧ c ≤ maxLen ∧ (A = none → c = 0) := by
  rcases h with ⟨rfl, rfl⟩ | ⟨g, off, c, h1, h2, h3, _, _⟩
  · exact ⟨none, 0, rfl, Nat.le_refl _, by unfold maxLen; omega, fun _ => rfl⟩
  · exact ⟨_, c, h1, h2, h3, fun e => by cases e⟩
theorem Ws.len (h : Ws w v L) : L.length ≤ 9223372036854775807 := by
  obtain ⟨A, c, _, h1, h2, _⟩ := h.form
  unfold maxLen at h2
  omega
theorem Ws.of_sl {base n : Nat} {e : TypeId} (h : Sl w base e 4 v n (flat L)) : Ws w v L := by
  have hn : n = L.length := by have := h.1; rw [flat_length] at this; omega
  subst hn
  rcases h.2 with ⟨h1, h2⟩ | ⟨g, cap, cur, fr, h1, h2, h3, h4, h5, h6, h7, h8⟩
  · exact .inl ⟨h1, List.eq_nil_of_length_eq_zero h2⟩
  · refine .inr ⟨g, 0, cap, h1, h5, h6, (Array.getElem?_eq_some_iff.1 h3).1, fun j u hu => ?_⟩
    subst h1
    have hj := (List.getElem?_eq_some_iff.1 hu).1
    rw [flat_length] at hj
    rw [Nat.zero_add, Sl.cell h j (by omega), hu]
/-- An element of it. -/
theorem Ws.at_ {g off c n : Nat} (h : Ws w (.slice (some ⟨g, off, none⟩) n c) L) (i : Nat) (x : Wd) (hx : L[i]? = some x) : ∀ j u, (wdV x)[j]? = some u → w.cell? ⟨g, off + 4 * i + j, none⟩ = some u := by
  rcases h with ⟨h, _⟩ | ⟨g', off', c', h1, h2, h3, h4, h5⟩
  · cases h
  · cases h1
    intro j u hu
    have hj : j < 4 := by have := (Array.getElem?_eq_some_iff.1 hu).1; rwa [wdV_size] at this
    have := h5 (4 * i + j) u (by rw [flat_get L i x hx j hj]; simpa [wdV] using hu)
    rw [← this]
    congr 2
    omega
end

/-! a word loaded -/
theorem run_loadVar_at {P : Program} (w : World) (g off : Nat) (ty : TypeId) (cs : Array Value) (d : TypeDesc) (hg : ∀ j u, cs[j]? = some u → w.cell? ⟨g, off + j, none⟩ = some u)
    (hu : P.underlying ty = some d) (hd : (match d with | .struct _ | .array _ _ => true | _ => false) = true) (hi : (P.info? ty).map (·.size) = some cs.size) :
    (loadVar ty ⟨g, off, none⟩).run P w = .ok (.agg cs) w := by
  have hl : (loadCells ⟨g, off, none⟩ cs.toList.length).run P w = .ok cs.toList.toArray w :=
    run_loadCells_list (P := P) w ⟨g, off, none⟩ cs.toList (fun j v hv => by
      have hadd : (⟨g, off, none⟩ : Addr).add j = ⟨g, off + j, none⟩ := by unfold Addr.add; split <;> simp_all
      rw [hadd]
      exact hg j v (by simpa using hv))
  cases hq : P.info? ty with
  | none => simp [hq] at hi
  | some i =>
    have hs : i.size = cs.size := by simpa [hq] using hi
    have hagg : (isAgg ty).run P w = .ok true w := by
      unfold isAgg
      rw [Sem.run_bind, run_underlying hu w]
      cases d <;> simp_all
    simp only [Array.length_toList, Array.toArray_toList] at hl
    simp [loadVar, Sem.run_bind, hagg, sizeOf, typeInfo, hq, hs, hl]
theorem info25 : (Try.prog.info? 25).map (·.size) = some 4 := by kernel_rfl
theorem infoz25 : (Try.prog.info? 25).map (fun i => (i.zero, i.size, i.bytes)) = some (some (.agg (wdV (0, 0, 0, 0))), 4, 32) := by kernel_rfl
theorem run_load_word (w : World) (g off : Nat) (x : Wd) (hg : ∀ j u, (wdV x)[j]? = some u → w.cell? ⟨g, off + j, none⟩ = some u) : (loadVar 25 ⟨g, off, none⟩).run Try.prog w = .ok (.agg (wdV x)) w :=
  run_loadVar_at w g off 25 (wdV x) _ hg Try.underlying25 rfl info25
theorem wpList_loadWord {ops : Array Oper} {rest : List Oper} {o : Oper} {a : Act} {w : World} {Q : Exit → Act → World → Prop} (hgd : o.guard = none) (x : Operand) (ho : o.op = .load 25 x)
    (g off : Nat) (hx : a.eval x = .pointer (some ⟨g, off, none⟩)) (y : Wd) (hg : ∀ j u, (wdV y)[j]? = some u → w.cell? ⟨g, off + j, none⟩ = some u)
    (h : wpList Try.prog ops Q rest (a.put o.dst (.agg (wdV y))) w) : wpList Try.prog ops Q (o :: rest) a w :=
  wpList_plain hgd fun K hK => by
    unfold Oper.wp execOp
    simp only [ho, hx, Instr.loadAt, Instr.sureAddr, Sem.run_bind, Sem.run_pure, Result.andThen_ok, run_load_word w g off y hg]
    exact hK _ _ h
theorem quiet_load_word {C : World → Prop} {a : Act} {o : Oper} {K : Act → Prop} (x : Operand) (ho : o.op = .load 25 x) (g off : Nat) (hx : a.eval x = .pointer (some ⟨g, off, none⟩)) (y : Wd) (hg : ∀ W, C W → ∀ j u, (wdV y)[j]? = some u → W.cell? ⟨g, off + j, none⟩ = some u)
    (hk : K (a.put o.dst (.agg (wdV y)))) : o.quiet Try.prog a C K := by
  refine ⟨_, fun W hW => ?_, hk⟩
  unfold Oper.quietAt
  have h := run_load_word W g off y (hg W hW)
  simp [execOp, ho, hx, Instr.loadAt, Instr.sureAddr, h, Result.andThen, Oper.quietUpon]
end Go.Proofs.Ythfopoeahphnjaa
