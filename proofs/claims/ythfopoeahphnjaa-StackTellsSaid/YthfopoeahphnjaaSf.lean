/- Dup and Swap, by their walks. -/
import Derived.Test.YthfopoeahphnjaaSe
import Derived.Test.YthfopoeahphnjaaIu
namespace Go.Proofs.Ythfopoeahphnjaa
open Go.RowKit Go.Shelf
set_option linter.unusedVariables false
set_option linter.unusedSimpArgs false
attribute [local go_sem] wdV_size fold_word

/-- 'Dup'. -/
def dupX (S : List Wd) (n : Int) : Wd := S.getD (S.length - n.toNat) (0, 0, 0, 0)
def dupE (S : List Wd) (n : Int) : Int := if wrongE S.length n 1 = 0 then pushE S [dupX S n] else wrongE S.length n 1
def dupL (S : List Wd) (n : Int) : List Wd := if wrongE S.length n 1 = 0 then pushL S [dupX S n] else S
theorem Ws.one {w : World} {g : Nat} {x : Wd} (h : Holds_ w g 25 (wdV x)) (c : Nat) (hc : 1 ≤ c) (hc2 : c ≤ maxLen) : Ws w (.slice (some ⟨g, 0, none⟩) 1 c) [x] :=
  .inr ⟨g, 0, c, rfl, hc, hc2, h.lt, fun j u hu => by
    rw [flat_one] at hu
    have := word_news h j u hu
    rw [Nat.zero_add]
    rw [show (⟨g, 0, none⟩ : Addr).add j = ⟨g, j, none⟩ from by unfold Addr.add; split <;> simp_all] at this
    exact this⟩

set_option maxRecDepth 100000 in
set_option maxHeartbeats 2000000 in
theorem dup_any (v : Value) (S : List Wd) (hS : S.length ≤ 5000) (n : Int) (hn : -9223372036854775808 ≤ n) (hn2 : n ≤ 9223372036854775807) (w : World) (h : Ws w v S) :
    Calls Try.prog 13 #[v, .int .i64 n] w fun e W' => ∃ v', e = .returned (.tuple #[v', .int .i64 (dupE S n)]) ∧ Ws W' v' (dupL S n) ∧ Below w.heap.size w W' := by
  have hwr := wrong_any v S n 1 w h
  have hcl := clone_any v S (by omega) w h
  unfold dupL dupE
  by_cases he : wrongE S.length n 1 = 0
  · rw [if_pos he, if_pos he]
    obtain ⟨h1, h2, h3⟩ := wrongE_zero _ _ _ he
    rw [he] at hwr
    obtain ⟨q, hq⟩ : ∃ q, S.length - n.toNat = q := ⟨_, rfl⟩
    have hql : q < S.length := by omega
    have hx : S[q]? = some (dupX S n) := by unfold dupX; rw [hq]; simp [List.getD, hql]
    generalize dupX S n = x at *
    have hp := fun u W h1 h2 => push_any v u S [x] hS (by simp) W h1 h2
    have hw1 : IntKind.i64.wrap ((S.length : Int) - n) = (q : Int) := (IntWalk.i64_in _ (by omega)).trans (by omega)
    have hqi : (q : Int) < (S.length : Int) := by omega
    obtain ⟨A, c, rfl, k1, k2, k3⟩ := h.form
    obtain ⟨g, off, rfl⟩ : ∃ g off, A = some ⟨g, off, none⟩ := by
      rcases h with ⟨_, e⟩ | ⟨g, off, _, e, _⟩
      · rw [e] at hql; simp at hql
      · exact ⟨g, off, (Value.slice.inj e).1⟩
    have hW1 := h.at_ q x hx
    rw [Nat.mul_comm] at hW1
    clear hcl
    have hB0 := Below.refl w.heap.size w
    go_enter Try.func13, Try.ntmps13
    go_wp2_with fail
    refine hwr.mono ?_
    rintro e w1 ⟨rfl, rfl⟩
    clear hwr
    go_wp2_with (with_reducible show wpList _ _ _ (⟨some 22, _, _, _, _, _⟩ :: _) _ _; refine wpList_loadWord rfl _ rfl g (off + q * 4) rfl x hW1 ?_)
    refine (hp _ _ (h.alloc _) (Ws.one (Holds_.new w 25 (wdV x)) _ (Nat.le_refl _) (by unfold maxLen; omega))).mono ?_
    rintro e w2 ⟨v', rfl, hW, hB⟩
    have hB2 := (hB0.alloc (Nat.le_refl _) _).trans (hB.mono (by simp))
    go_wp2_with fail
    go_ret2
    exact ⟨_, rfl, hW, hB2⟩
  · rw [if_neg he, if_neg he]
    have hne : (wrongE S.length n 1 != 0) = true := by rw [bne_iff_ne]; exact he
    generalize wrongE S.length n 1 = ee at *
    obtain ⟨A, c, rfl, k1, k2, k3⟩ := h.form
    go_enter Try.func13, Try.ntmps13
    go_wp2_with fail
    refine hwr.mono ?_
    rintro e w1 ⟨rfl, rfl⟩
    go_wp2_with fail
    refine hcl.mono ?_
    rintro e w1 ⟨v', rfl, hW, hB⟩
    go_wp2_with fail
    go_ret2
    exact ⟨_, rfl, hW, hB⟩

/-! a word stored in a stack of one's own -/
theorem flat_set (S : List Wd) (i : Nat) (x : Wd) (hi : i < S.length) : flat (S.set i x) = (flat S).take (4 * i) ++ encW x ++ (flat S).drop (4 * i + 4) := by
  rw [List.set_eq_take_append_cons_drop, if_pos hi, flat_append, flat_take]
  have h : flat (x :: S.drop (i + 1)) = encW x ++ flat (S.drop (i + 1)) := by simp [flat]
  rw [h, flat_drop, List.append_assoc, show 4 * (i + 1) = 4 * i + 4 from by omega]
theorem run_store_word {w : World} {base n g cap : Nat} {S : List Wd} (h : Sl w base 25 4 (.slice (some ⟨g, 0, none⟩) n cap) n (flat S)) (i : Nat) (hi : i < S.length) (x : Wd) :
    ∃ w', (storeVar 25 ⟨g, i * 4, none⟩ (.agg (wdV x))).run Try.prog w = .ok () w' ∧ Sl w' base 25 4 (.slice (some ⟨g, 0, none⟩) n cap) n (flat (S.set i x)) ∧ w.grownBy w' (some g) := by
  have hn : n = S.length := by have := h.1; rw [flat_length] at this; omega
  rcases h.2 with ⟨h0, _⟩ | ⟨g', cap', cur, fr, h1, h2, h3, h4, h5, h6, h7, h8⟩
  · cases h0
  · cases h1
    have hst := run_storeCells_free Try.prog g (i * 4) 25 fr (encW x) 0 cur w h3 h4 (by rw [encW_length]; omega) (encW_one x)
    rw [Nat.add_zero, encW_length] at hst
    have hsz : (List.take (i * 4) cur.toList ++ encW x ++ List.drop (i * 4 + 4) cur.toList).toArray.size = cur.size := by
      simp only [List.size_toArray, List.length_append, List.length_take, List.length_drop, Array.length_toList, encW_length]
      omega
    have htk : (List.take (i * 4) cur.toList ++ encW x ++ List.drop (i * 4 + 4) cur.toList).toArray.toList.take (n * 4) = flat (S.set i x) := by
      rw [flat_set S i x hi, ← h8]
      apply List.ext_getElem?
      intro j
      simp only [List.getElem?_take, List.getElem?_append, List.length_append, List.length_take, Array.length_toList, encW_length, List.getElem?_drop]
      have e1 : min (i * 4) cur.size = i * 4 := by omega
      have e2 : min (n * 4) cur.size = n * 4 := by omega
      have e3 : min (i * 4) (n * 4) = i * 4 := by omega
      rw [Nat.mul_comm 4 i, e1, e2, e3]
      repeat' split
      all_goals first | rfl | (exfalso; omega) | (congr 1; omega) | (rw [List.getElem?_eq_none]; rw [Array.length_toList]; omega)
    generalize (List.take (i * 4) cur.toList ++ encW x ++ List.drop (i * 4 + 4) cur.toList).toArray = C at *
    refine ⟨w.setRow g C, ?_, ⟨by rw [flat_length, List.length_set]; omega, .inr ⟨g, cap, C, fr, rfl, h2, setRow_heap w g cur C 25 _ h3, by rw [hsz]; exact h4, h5, h6, by rw [hsz]; exact h7, htk⟩⟩, ⟨rfl, rfl, rfl, by simp, fun k _ hk => setRow_other w g k C (fun e => hk (by rw [e]))⟩⟩
    cases hq : Try.prog.info? 25 with
    | none => have := info25; rw [hq] at this; cases this
    | some ii =>
      have hs : ii.size = 4 := by have := info25; rw [hq] at this; simpa using this
      have hl : (wdV x).toList = encW x := by simp [wdV]
      simp [storeVar, sizeOf, typeInfo, hq, Value.cells, hs, wdV_size, hl, hst]
end Go.Proofs.Ythfopoeahphnjaa
