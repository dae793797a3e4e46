/- slices.Chunk at bytes: the iterator's making, and what it hands to a loop's body. -/
import Derived.Test.YtkgbecgdappjoaaDoorMx
namespace Go.Proofs.YtkgbecgdappjoaaDoor
open Go.RowKit Go.Shelf
set_option linter.unusedVariables false
set_option linter.unusedSimpArgs false
attribute [local go_sem] Oper.semAt_some

theorem chunk_any (v : Value) (A : Option Addr) (n c : Nat) (hv : v = .slice A n c) (w : World) :
    Calls Tryd.prog 17 #[v, .int .i64 64] w fun e W' => e = .returned (.func (.func 23) #[] #[.pointer (some ⟨w.heap.size, 0, none⟩), .pointer (some ⟨w.heap.size + 1, 0, none⟩)]) ∧
      (w.alloc (.cells #[v] 26)).alloc (.cells #[.int .i64 64] 3) = W' := by
  subst hv
  go_enter Tryd.func17, Tryd.ntmps17
  go_wp2
  go_ret
  exact ⟨rfl, rfl⟩

/-- A chunk, by its number; what a round has to keep. -/
abbrev encC (g q : Nat) (c : Fin q) : Array Value := #[.slice (some ⟨g, 64 * c.1, none⟩) 64 64]
def KeepC (Bs Bn : Nat) (W W' : World) : Prop := W'.heap[Bs]? = W.heap[Bs]? ∧ W'.heap[Bn]? = W.heap[Bn]?
theorem keepC_t {Bs Bn : Nat} {A B C : World} (h : KeepC Bs Bn A B) (k : KeepC Bs Bn B C) : KeepC Bs Bn A C := ⟨k.1.trans h.1, k.2.trans h.2⟩
theorem keepC_b {Bs Bn : Nat} {w : World} (h1 : Bs < w.heap.size) (h2 : Bn < w.heap.size) (W : World) (l : Nat) (o o' : Obj) (hl : w.heap.size ≤ l) (_ : W.heap[l]? = some o) (_ : o.isCells = false) (_ : o.isWalk = false) : KeepC Bs Bn W (W.putObj l o') :=
  ⟨World.putObj_heap_other (by omega), World.putObj_heap_other (by omega)⟩
theorem takeF_succ (q k : Nat) (hk : k < q) : (List.finRange q).take (k + 1) = (List.finRange q).take k ++ [⟨k, hk⟩] := by
  rw [List.take_succ_eq_append_getElem (by simpa using hk)]
  simp

set_option maxRecDepth 100000 in
set_option maxHeartbeats 2000000 in
theorem chunk1_stops (n q g cap Bs Bn : Nat) (hcap : 64 * q ≤ cap) (hq : q ≤ 100000) (w : World) (hBs : Holds_ w Bs 26 #[.slice (some ⟨g, 0, none⟩) (64 * q) cap]) (hBn : Holds_ w Bn 3 #[.int .i64 64]) :
    SeqStopsK Fence.wide n Tryd.prog 23 #[.pointer (some ⟨Bs, 0, none⟩), .pointer (some ⟨Bn, 0, none⟩)] (encC g q) (KeepC Bs Bn) (fun xs => xs = List.finRange q) (fun _ => True) q w := fun l J Jx W hW hJ hJx hY h0 => by
  refine callsIn_of_wp Tryd.func23 rfl trivial ?_ rfl
  simp only [Tryd.ntmps23, List.size_toArray, List.length_cons, List.length_nil, Nat.reduceAdd, Nat.reduceSub, Array.replicate_succ, Array.replicate_zero, List.push_toArray, List.append_toArray, List.nil_append, List.cons_append]
  have hs := hBs.below hW hBs.lt
  have hn := hBn.below hW hBn.lt
  obtain ⟨m, hm⟩ : ∃ m, 64 * q = m := ⟨_, rfl⟩
  rw [hm] at hs hcap
  have hm2 : m ≤ 6400000 := by omega
  have Hm := Lib.hid hm
  clear hm hBs hBn hW
  gi_wp2
  gi_loopw [4] (fun i wr => ∃ k : Nat, k ≤ q ∧ i = .int .i64 ((64 * k : Nat) : Int) ∧ J ((List.finRange q).take k) wr ∧ Holds_ wr Bs 26 #[.slice (some ⟨g, 0, none⟩) m cap] ∧ Holds_ wr Bn 3 #[.int .i64 64])
    (fun i _ => m - (intOf i).toNat)
  case atStart => exact ⟨0, Nat.zero_le _, rfl, h0, hs, hn⟩
  case round =>
    obtain ⟨k, hk, rfl, hJs, hs, hn⟩ := hrel
    have hcs : wr.cell? ⟨Bs, 0, none⟩ = some (.slice (some ⟨g, 0, none⟩) m cap) := hs.cell 0
    have hcn : wr.cell? ⟨Bn, 0, none⟩ = some (.int .i64 64) := hn.cell 0
    by_cases hlt : k < q
    · have hJd : J ((List.finRange q).take k) wr.drew := hJ _ _ _ none hJs (grownBy_drew _ _) (fun r e => by cases e)
      obtain ⟨fn, tmps, assign, body, hy, hR⟩ := hY _ ⟨k, hlt⟩ wr.drew hJd (by simp; omega)
      obtain ⟨i, hi⟩ : ∃ i, 64 * k = i := ⟨_, rfl⟩
      have him : i + 64 ≤ m := by rw [← Hm.out]; omega
      have Hi := Lib.hid hi
      dsimp only [encC] at hy
      rw [hi] at hy ⊢
      clear hi
      gi_wp2
      have w1 : IntKind.i64.wrap ((m : Int) - (i : Int)) = (m : Int) - (i : Int) := IntWalk.i64_in _ (by omega)
      obtain ⟨r, hr⟩ : ∃ r, m - i = r := ⟨_, rfl⟩
      have hr2 : (64 : Int) ≤ (r : Int) := by omega
      have hle : i ≤ m := by omega
      have hne : ¬ cap = i := by omega
      have hk1 : i + 64 ≤ cap := by omega
      refine wpIn_region_still_wide (by kernel_rfl) (by kernel_rfl) ?_
      repeat still_step
      refine wpStill_nil ?_
      gi_wp2
      refine ⟨fun h => (by cases h), hR.mono ?_⟩
      rintro e W3 (⟨rfl, hJ3, hk3⟩ | ⟨rfl, hJx3⟩)
      · have hs3 : Holds_ W3 Bs 26 #[.slice (some ⟨g, 0, none⟩) m cap] := hk3.1.trans hs
        have hn3 : Holds_ W3 Bn 3 #[.int .i64 64] := hk3.2.trans hn
        have hcn3 : W3.cell? ⟨Bn, 0, none⟩ = some (.int .i64 64) := hn3.cell 0
        clear hr w1
        gi_wp2
        go_roundw
        case rel => exact ⟨k + 1, by omega, by rw [show ((64 * (k + 1) : Nat) : Int) = (i : Int) + 64 from by rw [← Hi.out]; omega], by rw [takeF_succ q k hlt]; exact hJ3, hs3, hn3⟩
        case measure => simp [intOf]; omega
      · gi_wp2
        refine bodyPost_ret (results_none rfl _ _ _) rfl ?_
        exact ⟨⟨_, rfl⟩, .inr ⟨_, trivial, hJx3⟩⟩
    · obtain rfl : k = q := by omega
      rw [Hm.out]
      gi_wp2
      go_end0
      exact ⟨⟨_, rfl⟩, .inl ⟨_, rfl, by rw [List.take_of_length_le (by simp)] at hJs; exact hJs⟩⟩
end Go.Proofs.YtkgbecgdappjoaaDoor
