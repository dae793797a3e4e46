/- Numbers in slices: what a slice of the call's own holds, as a function of the place. -/
import Derived.Test.YtkgbecgdappjoaaDoorWi
namespace Go.Proofs.YtkgbecgdappjoaaDoor
open Go.RowKit Go.Shelf
set_option linter.unusedVariables false
set_option linter.unusedSimpArgs false

/-- A function turned at one place. -/
def fput (f : Nat → Nat) (i v : Nat) : Nat → Nat := fun j => if j = i then v else f j
theorem fput_same (f : Nat → Nat) (i v : Nat) : fput f i v i = v := by simp [fput]
theorem fput_other (f : Nat → Nat) (i v j : Nat) (h : j ≠ i) : fput f i v j = f j := by simp [fput, h]
/-- So many numbers, one behind the other. -/
def rl (n : Nat) (f : Nat → Nat) : List Value := (List.range n).map fun i => .int .i64 ((f i : Nat) : Int)
theorem rl_length (n : Nat) (f : Nat → Nat) : (rl n f).length = n := by simp [rl]
theorem rl_get (n : Nat) (f : Nat → Nat) (i : Nat) (hi : i < n) : (rl n f)[i]? = some (.int .i64 ((f i : Nat) : Int)) := by simp [rl, hi]
theorem rl_set (n : Nat) (f : Nat → Nat) (i v : Nat) : (rl n f).set i (.int .i64 ((v : Nat) : Int)) = rl n (fput f i v) := by
  apply List.ext_getElem?
  intro j
  by_cases hj : j < n
  · rw [List.getElem?_set, rl_get _ _ _ hj, rl_get _ _ _ hj, rl_length]
    by_cases h : i = j
    · subst h; simp [hj, fput]
    · rw [if_neg h, fput_other _ _ _ _ (fun e => h e.symm)]
  · rw [List.getElem?_eq_none (by rw [List.length_set, rl_length]; omega), List.getElem?_eq_none (by rw [rl_length]; omega)]
theorem rl_succ (n : Nat) (f : Nat → Nat) : rl (n + 1) f = rl n f ++ [.int .i64 ((f n : Nat) : Int)] := by simp [rl, List.range_succ]
theorem rl_congr {n : Nat} {f g : Nat → Nat} (h : ∀ i, i < n → f i = g i) : rl n f = rl n g := by
  unfold rl
  apply List.map_congr_left
  intro i hi
  rw [h i (by simpa using hi)]

/-- A slice of the call's own that holds so many numbers. -/
def Bi (w : World) (base : Nat) (v : Value) (n : Nat) (f : Nat → Nat) : Prop := Sl w base 3 1 v n (rl n f)
section
variable {w w' : World} {base n g c : Nat} {v : Value} {f : Nat → Nat}
theorem Bi.cell (h : Bi w base (.slice (some ⟨g, 0, none⟩) n c) n f) (i : Nat) (hi : i < n) : w.cell? ⟨g, i, none⟩ = some (.int .i64 ((f i : Nat) : Int)) := by
  rw [Sl.cell h i (by omega), rl_get _ _ _ hi]
theorem Bi.free (h : Bi w base (.slice (some ⟨g, 0, none⟩) n c) n f) (i : Nat) (hi : i < n) : w.frozen? ⟨g, i, none⟩ = false := Sl.free h i (by omega)
theorem Bi.later (h : Bi w base v n f) (hb : Below w.heap.size w w') : Bi w' base v n f := Sl.later h hb
theorem Bi.put (h : Bi w base (.slice (some ⟨g, 0, none⟩) n c) n f) (i u : Nat) : Bi (w.setCell ⟨g, i, none⟩ (.int .i64 ((u : Nat) : Int))) base (.slice (some ⟨g, 0, none⟩) n c) n (fput f i u) := by
  unfold Bi
  rw [← rl_set]
  exact Sl.put h i _
theorem Bi.congr {f' : Nat → Nat} (h : Bi w base v n f) (e : ∀ i, i < n → f i = f' i) : Bi w base v n f' := by
  unfold Bi
  rw [← rl_congr e]
  exact h
end
theorem info3 : (Tryd.prog.info? 3).map (fun i => (i.zero, i.size, i.bytes)) = some (some (.int .i64 0), 1, 8) := by kernel_rfl
theorem madeCells_ints (n : Nat) : madeCells (Value.int .i64 0).cells n = (rl n (fun _ => 0)).toArray := by
  have hz : ∀ i, i < n → (madeCells (Value.int .i64 0).cells n)[i]? = some (.int .i64 0) := by
    intro i hi
    simp only [madeCells, Value.cells]
    rw [Array.getElem?_map]
    simp [hi, Nat.mod_one]
  apply Array.ext_getElem?
  intro i
  by_cases hi : i < n
  · rw [hz i hi, List.getElem?_toArray, rl_get _ _ _ hi]
    rfl
  · rw [Array.getElem?_eq_none (by rw [size_madeCells]; omega), Array.getElem?_eq_none (by rw [List.size_toArray, rl_length]; omega)]
theorem run_ints (n : Nat) (hn : n ≤ 2000000) (W : World) : (Instr.makeSlice 36 (.int .i64 (n : Int)) (.int .i64 (n : Int))).run Tryd.prog W = .ok (.slice (some ⟨W.heap.size, 0, none⟩) n n) (W.alloc (.cells (rl n (fun _ => 0)).toArray 3)) := by
  obtain ⟨i5, hi5, hz0, hz1, hz2⟩ := info_parts info3
  have h := run_make (P := Tryd.prog) W 36 3 i5 _ Tryd.underlying36 hi5 hz0 .i64 .i64 n n (by omega) (by omega) (by rw [hz2]; omega) (by omega)
  rw [hz1, Nat.mul_one] at h
  simp only [Int.toNat_natCast] at h
  rw [h, madeCells_ints]
theorem Bi.zeros (n : Nat) (hn : n ≤ 2000000) (W : World) : Bi (W.alloc (.cells (rl n (fun _ => 0)).toArray 3)) W.heap.size (.slice (some ⟨W.heap.size, 0, none⟩) n n) n (fun _ => 0) := by
  refine ⟨by rw [rl_length, Nat.mul_one], .inr ⟨W.heap.size, n, _, (0, 0), rfl, Nat.le_refl _, heap_alloc_new W _, .inr rfl, Nat.le_refl _, by unfold maxLen; omega, by rw [List.size_toArray, rl_length, Nat.mul_one], ?_⟩⟩
  exact List.take_of_length_le (by simp [rl_length])
theorem Bi.alloc {w : World} {base n : Nat} {v : Value} {f : Nat → Nat} (h : Bi w base v n f) (o : Obj) : Bi (w.alloc o) base v n f := Sl.alloc h o
theorem Bi.nil_ (w : World) (base : Nat) (f : Nat → Nat) : Bi w base (.slice none 0 0) 0 f := Sl.nil_ _ _ _ _
theorem Bi.lower {w : World} {base b n : Nat} {v : Value} {f : Nat → Nat} (h : Bi w base v n f) (hb : b ≤ base) : Bi w b v n f := Sl.lower h hb
/-- One number more, behind the others. -/
theorem wpList_append_one {ops : Array Oper} {rest : List Oper} {o : Oper} {a : Act} {w : World} {Q : Exit → Act → World → Prop} (hgd : o.guard = none) (s x : Operand)
    (ho : o.op = .call { callee := .builtin .append, args := #[s, x], argTypes := #[36, 36] }) (base n : Nat) (v : Value) (f : Nat → Nat) (hs : a.eval s = v) (hown : Bi w base v n f)
    (g u : Nat) (hx : a.eval x = .slice (some ⟨g, 0, none⟩) 1 1) (hg : Holds_ w g 3 #[.int .i64 ((u : Nat) : Int)]) (hu : u = f n) (hn : n ≤ 100000) (hbase : base ≤ w.heap.size)
    (h : ∀ v' w', Bi w' base v' (n + 1) f → Below base w w' → wpList Tryd.prog ops Q rest (a.put o.dst v') w') : wpList Tryd.prog ops Q (o :: rest) a w := by
  obtain ⟨i0, hi, hz0, hz1, hz2⟩ := info_parts info3
  obtain ⟨v', w', r1, r2, r3, _⟩ := run_append_Sl (P := Tryd.prog) w base 36 o.type 3 i0 (.int .i64 0) 1 8 Tryd.underlying36 hi hz0 hz1 hz2 rfl (by decide) v n (rl n f) hown ⟨g, 0, none⟩ 1 1 [.int .i64 ((u : Nat) : Int)] rfl (one_at hg) (one_ok rfl) (by unfold maxLen; omega) (by omega) hbase
  have hb : Below base w w' := (Below.refl base w).grown r3 hbase (fun k e => (Sl.lt hown k e).1)
  have hB : Bi w' base v' (n + 1) f := by
    unfold Bi
    rw [rl_succ, ← hu]
    exact r2
  exact wpList_plain hgd fun _ hK => by
    unfold Oper.wp execOp
    simp only [ho, resolve, invoke, builtin, Sem.run_bind, Sem.run_pure, Result.andThen_ok, List.map_toArray, List.map_cons, List.map_nil, hs, hx, r1]
    exact hK _ _ (h v' w' hB hb)

/-- What two slices hold, one behind the other. -/
def joinF (n : Nat) (f f2 : Nat → Nat) (i : Nat) : Nat := if i < n then f i else f2 (i - n)
theorem rl_join (n m : Nat) (f f2 : Nat → Nat) : rl n f ++ rl m f2 = rl (n + m) (joinF n f f2) := by
  apply List.ext_getElem?
  intro i
  rw [List.getElem?_append, rl_length]
  by_cases h : i < n
  · rw [if_pos h, rl_get _ _ _ h, rl_get _ _ _ (by omega)]
    unfold joinF
    rw [if_pos h]
  · rw [if_neg h]
    by_cases h2 : i < n + m
    · rw [rl_get _ _ _ (by omega), rl_get _ _ _ h2]
      unfold joinF
      rw [if_neg h]
    · rw [List.getElem?_eq_none (by rw [rl_length]; omega), List.getElem?_eq_none (by rw [rl_length]; omega)]
theorem wpList_append_Bi {ops : Array Oper} {rest : List Oper} {o : Oper} {a : Act} {w : World} {Q : Exit → Act → World → Prop} (hgd : o.guard = none) (s x : Operand)
    (ho : o.op = .call { callee := .builtin .append, args := #[s, x], argTypes := #[36, 36] }) (base n : Nat) (v : Value) (f : Nat → Nat) (hs : a.eval s = v) (hown : Bi w base v n f)
    (b2 g m c : Nat) (f2 : Nat → Nat) (hx : a.eval x = .slice (some ⟨g, 0, none⟩) m c) (hM : Bi w b2 (.slice (some ⟨g, 0, none⟩) m c) m f2) (hn : n + m ≤ 100000) (hbase : base ≤ w.heap.size)
    (h : ∀ v' w', Bi w' base v' (n + m) (joinF n f f2) → Below base w w' → wpList Tryd.prog ops Q rest (a.put o.dst v') w') : wpList Tryd.prog ops Q (o :: rest) a w := by
  obtain ⟨i0, hi, hz0, hz1, hz2⟩ := info_parts info3
  obtain ⟨v', w', r1, r2, r3, _⟩ := run_append_Sl (P := Tryd.prog) w base 36 o.type 3 i0 (.int .i64 0) 1 8 Tryd.underlying36 hi hz0 hz1 hz2 rfl (by decide) v n (rl n f) hown ⟨g, 0, none⟩ m c (rl m f2) (by rw [rl_length, Nat.mul_one])
    (fun j u hu => by
      rw [show (⟨g, 0, none⟩ : Addr).add j = ⟨g, j, none⟩ from by unfold Addr.add; split <;> simp_all]
      have hj : j < m := by have := (List.getElem?_eq_some_iff.1 hu).1; rwa [rl_length] at this
      rw [rl_get _ _ _ hj] at hu
      rw [hM.cell j hj, hu])
    (fun u hu => by
      simp only [rl, List.mem_map] at hu
      obtain ⟨i, _, rfl⟩ := hu
      rfl) (by unfold maxLen; omega) (by omega) hbase
  have hb : Below base w w' := (Below.refl base w).grown r3 hbase (fun k e => (Sl.lt hown k e).1)
  have hB : Bi w' base v' (n + m) (joinF n f f2) := by
    unfold Bi
    rw [← rl_join]
    exact r2
  exact wpList_plain hgd fun _ hK => by
    unfold Oper.wp execOp
    simp only [ho, resolve, invoke, builtin, Sem.run_bind, Sem.run_pure, Result.andThen_ok, List.map_toArray, List.map_cons, List.map_nil, hs, hx, r1]
    exact hK _ _ (h v' w' hB hb)
theorem wpList_append_oneG {ops : Array Oper} {rest : List Oper} {o : Oper} {a : Act} {w : World} {Q : Exit → Act → World → Prop} (hgd : o.guard = none) (s x : Operand)
    (ho : o.op = .call { callee := .builtin .append, args := #[s, x], argTypes := #[36, 36] }) (base n : Nat) (v : Value) (f : Nat → Nat) (hs : a.eval s = v) (hown : Bi w base v n f)
    (g u : Nat) (hx : a.eval x = .slice (some ⟨g, 0, none⟩) 1 1) (hg : Holds_ w g 3 #[.int .i64 ((u : Nat) : Int)]) (hu : u = f n) (hn : n ≤ 100000) (hbase : base ≤ w.heap.size)
    (h : ∀ v' w', Bi w' base v' (n + 1) f → Below base w w' → w.grownBy w' v.ownBlock → (v'.ownBlock = v.ownBlock ∨ v'.ownBlock = some w.heap.size) → wpList Tryd.prog ops Q rest (a.put o.dst v') w') : wpList Tryd.prog ops Q (o :: rest) a w := by
  obtain ⟨i0, hi, hz0, hz1, hz2⟩ := info_parts info3
  obtain ⟨v', w', r1, r2, r3, r4⟩ := run_append_Sl (P := Tryd.prog) w base 36 o.type 3 i0 (.int .i64 0) 1 8 Tryd.underlying36 hi hz0 hz1 hz2 rfl (by decide) v n (rl n f) hown ⟨g, 0, none⟩ 1 1 [.int .i64 ((u : Nat) : Int)] rfl (one_at hg) (one_ok rfl) (by unfold maxLen; omega) (by omega) hbase
  have hb : Below base w w' := (Below.refl base w).grown r3 hbase (fun k e => (Sl.lt hown k e).1)
  have hB : Bi w' base v' (n + 1) f := by
    unfold Bi
    rw [rl_succ, ← hu]
    exact r2
  exact wpList_plain hgd fun _ hK => by
    unfold Oper.wp execOp
    simp only [ho, resolve, invoke, builtin, Sem.run_bind, Sem.run_pure, Result.andThen_ok, List.map_toArray, List.map_cons, List.map_nil, hs, hx, r1]
    exact hK _ _ (h v' w' hB hb r3 r4)
theorem Bi.cut {w : World} {base n g c k : Nat} {f : Nat → Nat} (h : Bi w base (.slice (some ⟨g, 0, none⟩) n c) n f) (hk : k ≤ n) : Bi w base (.slice (some ⟨g, 0, none⟩) k c) k f := by
  refine ⟨by rw [rl_length, Nat.mul_one], ?_⟩
  rcases h.2 with ⟨h0, _⟩ | ⟨g', cap', cur, fr, h1, h2, h3, h4, h5, h6, h7, h8⟩
  · cases h0
  · cases h1
    refine .inr ⟨g, c, cur, fr, rfl, h2, h3, h4, by omega, h6, h7, ?_⟩
    rw [Nat.mul_one] at h8 ⊢
    have h9 := congrArg (List.take k) h8
    rw [List.take_take, Nat.min_eq_left hk] at h9
    rw [h9]
    unfold rl
    rw [← List.map_take, List.take_range, Nat.min_eq_left hk]
theorem Bi.drew {w : World} {base n : Nat} {v : Value} {f : Nat → Nat} (h : Bi w base v n f) : Bi w.drew base v n f := h
theorem Bi.holds {W : World} {g n : Nat} {f : Nat → Nat} {cs : Array Value} (h : Holds_ W g 3 cs) (hcs : cs.toList = rl n f) (hn : n ≤ 100000) : Bi W g (.slice (some ⟨g, 0, none⟩) n n) n f := by
  have hs : cs.size = n := by rw [← Array.length_toList, hcs, rl_length]
  refine ⟨by rw [rl_length, Nat.mul_one], .inr ⟨g, n, cs, (0, 0), rfl, Nat.le_refl _, h, .inr rfl, Nat.le_refl _, by unfold maxLen; omega, by rw [hs, Nat.mul_one], ?_⟩⟩
  rw [hcs]
  exact List.take_of_length_le (by rw [rl_length, Nat.mul_one]; exact Nat.le_refl _)

end Go.Proofs.YtkgbecgdappjoaaDoor
