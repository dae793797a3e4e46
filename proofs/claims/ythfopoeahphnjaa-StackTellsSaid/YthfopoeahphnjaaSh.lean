/- Stack, by its walk. -/
import Derived.Test.YthfopoeahphnjaaSg
namespace Go.Proofs.Ythfopoeahphnjaa
open Go.RowKit Go.Shelf
set_option linter.unusedVariables false
set_option linter.unusedSimpArgs false
attribute [local go_sem] wdV_size fold_word

/-- The slice v of numbers reads as l. -/
def Is (w : World) (v : Value) (l : List Int) : Prop :=
  ∃ A c, v = .slice A l.length c ∧ l.length ≤ 9223372036854775807 ∧ (∀ x ∈ l, -9223372036854775808 ≤ x ∧ x ≤ 9223372036854775807) ∧ (∀ i x, l[i]? = some x → ∃ g off, A = some ⟨g, off, none⟩ ∧ g < w.heap.size ∧ w.cell? ⟨g, off + i, none⟩ = some (.int .i64 x))
theorem Is.below {w w' : World} {v : Value} {l : List Int} {B : Nat} (h : Is w v l) (hb : Below B w w') (hB : w.heap.size ≤ B) : Is w' v l := by
  obtain ⟨A, c, h1, h2, h3, h4⟩ := h
  refine ⟨A, c, h1, h2, h3, fun i x hx => ?_⟩
  obtain ⟨g, off, e, hg, hc⟩ := h4 i x hx
  exact ⟨g, off, e, Nat.lt_of_lt_of_le hg hb.size, (hb.cell (p := ⟨g, off + i, none⟩) (Nat.lt_of_lt_of_le hg hB)).trans hc⟩
def baseL (l : List Int) : List Wd := (l.take 20).map ofI
/-- How many there are to be, where there are to be many. -/
def goal (less : Int) : Nat := 1025 - (pickS less 4).toNat
def moreL (s : List Wd) (m : Nat) : List Wd := s ++ (List.range (m - s.length)).map fun j => ofI ((s.length + j : Nat) : Int)
def stackL (l : List Int) (great : Bool) (less : Int) : List Wd := if great then moreL (baseL l) (goal less) else baseL l
theorem baseL_length (l : List Int) : (baseL l).length = min 20 l.length := by simp [baseL]
theorem moreL_length (s : List Wd) (m : Nat) (h : s.length ≤ m) : (moreL s m).length = m := by simp [moreL]; omega
theorem moreL_start (s : List Wd) : moreL s s.length = s := by simp [moreL]
theorem moreL_succ (s : List Wd) (m : Nat) (h : s.length ≤ m) : moreL s (m + 1) = moreL s m ++ [ofI (m : Int)] := by
  unfold moreL
  rw [show m + 1 - s.length = (m - s.length) + 1 from by omega, List.range_succ, List.map_append, List.append_assoc, List.map_singleton, show s.length + (m - s.length) = m from by omega]
theorem goal_bd (less : Int) : 1022 ≤ goal less ∧ goal less ≤ 1025 := by
  have := pickS_bd less 4 (by decide)
  unfold goal
  omega
theorem take_map_succ (l : List Int) (k : Nat) (x : Int) (hx : l[k]? = some x) : (l.take (k + 1)).map ofI = (l.take k).map ofI ++ [ofI x] := by
  rw [List.take_add_one, hx]
  simp

set_option maxRecDepth 100000 in
set_option maxHeartbeats 4000000 in
theorem stack_any (v : Value) (l : List Int) (great : Bool) (less : Int) (hless : -9223372036854775808 ≤ less) (hless2 : less ≤ 9223372036854775807) (w : World) (h : Is w v l) :
    Calls Try.prog 8 #[v, .bool great, .int .i64 less] w fun e W' => ∃ v', e = .returned v' ∧ Ws W' v' (stackL l great less) ∧ Below w.heap.size w W' := by
  obtain ⟨i0, hi, hz0, hz1, hz2⟩ := info_parts infoz25
  obtain ⟨A, c, rfl, h2, h3, h4⟩ := h
  obtain ⟨N, hN⟩ : ∃ N, l.length = N := ⟨_, rfl⟩
  rw [hN] at h2
  rw [hN]
  have hgl := goal_bd less
  have hpk := pickS_bd less 4 (by decide)
  have hgoal : ((1025 : Int) - pickS less 4) = ((goal less : Nat) : Int) := by unfold goal; omega
  have hpick := fun w => pick_any less 4 w (by decide) (by decide) hless hless2
  have hB0 := Below.refl w.heap.size w
  go_enter Try.func8, Try.ntmps8
  go_wp2_with fail
  go_loopw [7, 8] (fun u i wr => ∃ k : Nat, k ≤ N ∧ k ≤ 20 ∧ i = .int .i64 k ∧ Sl wr w.heap.size 25 4 u k (flat ((l.take k).map ofI)) ∧ Below w.heap.size w wr)
    (fun _ i _ => N - (intOf i).toNat)
  case atStart => exact ⟨0, by omega, by omega, rfl, Sl.nil_ _ _ _ _, hB0⟩
  case round =>
    obtain ⟨k, hk, hk20, rfl, hS, hB⟩ := hrel
    by_cases hlt : k < N ∧ k < 20
    · obtain ⟨hl1, hl2⟩ := hlt
      have hx : l[k]? = some (l[k]'(by omega)) := List.getElem?_eq_getElem (by omega)
      generalize l[k]'(by omega) = x at hx
      obtain ⟨g, off, rfl, hg, hc⟩ := h4 k x hx
      have hxb := h3 x (List.mem_of_getElem? hx)
      have hcx : wr.cell? ⟨g, off + k, none⟩ = some (.int .i64 x) := (hB.cell (p := ⟨g, off + k, none⟩) hg).trans hc
      have hof := fun w => of_any x hxb.1 hxb.2 w
      have hsucc := take_map_succ l k x hx
      have HS := Lib.hid hsucc
      have hi1 : (k : Int) < (N : Int) := by omega
      have hi2 : (k : Int) < 20 := by omega
      have hlk : ((l.take k).map ofI).length = k := by rw [List.length_map, List.length_take]; omega
      clear hsucc hx hc
      generalize (l.take k).map ofI = M at *
      go_wp2_with fail
      refine (hof _).mono ?_
      rintro e w2 ⟨rfl, hb2⟩
      have hS2 := hS.later hb2
      have hB2 := hB.trans (hb2.mono hB.size)
      have hsz2 := hB2.size
      clear hof hb2 hS hB hcx
      go_wp2_with (at_builtin; refine wpList_append_Sl _ rfl _ _ 27 rfl w.heap.size 25 i0 (.agg (wdV (0, 0, 0, 0))) 4 32 Try.underlying27 hi hz0 hz1 hz2 rfl (by decide) _ _ _ rfl (hS2.alloc _) ⟨w2.heap.size, 0, none⟩ 1 1 (encW (ofI x)) rfl ?e0 ?e1 ?e2 ?e3 ?e4 ?e5 ?_)
      case e0 => rfl
      case e1 => exact word_news (Holds_.new w2 25 (wdV (ofI x)))
      case e2 => exact encW_one _
      case e3 => unfold maxLen; omega
      case e4 => omega
      case e5 => simp; omega
      intro v3 w3 hS3 hg3 _
      have hB3 : Below w.heap.size w w3 := (hB2.alloc hsz2 _).grown (w' := w3) hg3 (by simp; omega) (fun k e => (hS2.lt k e).1)
      go_wp2_with fail
      go_roundw
      case rel => exact ⟨k + 1, by omega, by omega, by go_num, by rw [HS.out, flat_append, flat_one]; exact hS3, hB3⟩
      case measure => simp [intOf]; omega
    · have hkm : (l.take k).map ofI = baseL l := by
        unfold baseL
        by_cases hk' : k = 20
        · rw [hk']
        · rw [List.take_of_length_le (by omega), List.take_of_length_le (by omega)]
      rw [hkm] at hS
      have hbl := baseL_length l
      have hkl : k = (baseL l).length := by have := hS.1; rw [flat_length] at this; omega
      cases great with
      | false =>
        by_cases hkN : k < N
        · have hnk : ¬ (k : Int) < 20 := by omega
          have hkN' : (k : Int) < (N : Int) := by omega
          go_wp2_with fail
          go_loopw [7] (fun u W => Ws W u (baseL l) ∧ Below w.heap.size w W) (fun _ _ => 0)
          case atStart => exact ⟨Ws.of_sl hS, hB⟩
          case round =>
            obtain ⟨hS, hB⟩ := hrel
            go_wp2_with fail
            go_ret
            exact ⟨_, rfl, hS, hB⟩
        · have hkN' : ¬ (k : Int) < (N : Int) := by omega
          go_wp2_with fail
          go_loopw [7] (fun u W => Ws W u (baseL l) ∧ Below w.heap.size w W) (fun _ _ => 0)
          case atStart => exact ⟨Ws.of_sl hS, hB⟩
          case round =>
            obtain ⟨hS, hB⟩ := hrel
            go_wp2_with fail
            go_ret
            exact ⟨_, rfl, hS, hB⟩
      | true =>
        have hst : stackL l true less = moreL (baseL l) (goal less) := rfl
        have HST := Lib.hid hst
        have hbs : (baseL l).length ≤ 20 := by omega
        have hstart := moreL_start (baseL l)
        have hS0 : Sl wr w.heap.size 25 4 u7 (baseL l).length (flat (moreL (baseL l) (baseL l).length)) := by rw [hstart, ← hkl]; exact hS
        have key : ((k : Int) < (N : Int) ∧ ¬ (k : Int) < 20) ∨ ¬ (k : Int) < (N : Int) := by omega
        have hgw : IntKind.i64.wrap (1025 - pickS less 4) = ((goal less : Nat) : Int) := (IntWalk.i64_in _ (by omega)).trans hgoal
        clear hst hkm hstart hS hgoal hpk
        generalize baseL l = s at *
        generalize goal less = T at *
        generalize pickS less 4 = pk at *
        rcases key with ⟨hk1, hk2⟩ | hk1
        all_goals
          go_wp2_with fail
          go_loopw [7] (fun u W => ∃ m : Nat, s.length ≤ m ∧ m ≤ T ∧ Sl W w.heap.size 25 4 u m (flat (moreL s m)) ∧ Below w.heap.size w W)
            (fun u _ => T - lenV u)
          case atStart => exact ⟨s.length, Nat.le_refl _, by omega, hS0, hB⟩
          case round =>
            clear hS0 hB
            obtain ⟨m, hm1, hm2, hS, hB⟩ := hrel
            obtain ⟨A2, c2, rfl⟩ := hS.shape
            by_cases hlt2 : m < T
            · have hmT : (m : Int) < (T : Int) := by omega
              have hof := fun w => of_any (m : Int) (by omega) (by omega) w
              have hsucc := moreL_succ s m hm1
              have HS := Lib.hid hsucc
              have hml := moreL_length s m hm1
              clear hsucc
              generalize moreL s m = M at *
              go_wp2_with fail
              refine (hpick _).mono ?_
              rintro e w2 ⟨rfl, rfl⟩
              go_wp2_with fail
              refine (hof _).mono ?_
              rintro e w2 ⟨rfl, hb2⟩
              have hS2 := hS.later hb2
              have hB2 := hB.trans (hb2.mono hB.size)
              have hsz2 := hB2.size
              clear hof hb2 hS hB
              go_wp2_with (at_builtin; refine wpList_append_Sl _ rfl _ _ 27 rfl w.heap.size 25 i0 (.agg (wdV (0, 0, 0, 0))) 4 32 Try.underlying27 hi hz0 hz1 hz2 rfl (by decide) _ _ _ rfl (hS2.alloc _) ⟨w2.heap.size, 0, none⟩ 1 1 (encW (ofI (m : Int))) rfl ?e0 ?e1 ?e2 ?e3 ?e4 ?e5 ?_)
              case e0 => rfl
              case e1 => exact word_news (Holds_.new w2 25 (wdV (ofI (m : Int))))
              case e2 => exact encW_one _
              case e3 => unfold maxLen; omega
              case e4 => omega
              case e5 => simp; omega
              intro v3 w3 hS3 hg3 _
              have hB3 : Below w.heap.size w w3 := (hB2.alloc hsz2 _).grown (w' := w3) hg3 (by simp; omega) (fun k e => (hS2.lt k e).1)
              go_wp2_with fail
              go_roundw
              case rel => exact ⟨m + 1, by omega, by omega, by rw [HS.out, flat_append, flat_one]; exact hS3, hB3⟩
              case measure =>
                obtain ⟨A3, c3, rfl⟩ := hS3.shape
                simp [lenV]
                omega
            · obtain rfl : m = T := by omega
              go_wp2_with fail
              refine (hpick _).mono ?_
              rintro e w2 ⟨rfl, rfl⟩
              go_wp2_with fail
              go_ret
              exact ⟨_, rfl, by rw [HST.out]; exact Ws.of_sl hS, hB⟩
end Go.Proofs.Ythfopoeahphnjaa
