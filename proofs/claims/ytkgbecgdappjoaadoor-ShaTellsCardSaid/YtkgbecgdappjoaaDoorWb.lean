/- turned, number, by their walks. -/
import Derived.Test.YtkgbecgdappjoaaDoorWa
namespace Go.Proofs.YtkgbecgdappjoaaDoor
open Go.RowKit Go.Shelf
set_option linter.unusedVariables false
set_option linter.unusedSimpArgs false

set_option maxRecDepth 100000 in
set_option maxHeartbeats 2000000 in
theorem turned_any (x g cap : Nat) (l : List Nat) (hl : l.length ≤ 100) (hn : ∀ n ∈ l, 1 ≤ n ∧ n ≤ 31) (w : World) (hx : x < 4294967296) (hc : ∀ i, i < l.length → w.cell? ⟨g, i, none⟩ = some (.int .i64 ((l.getD i 0 : Nat) : Int))) :
    Calls Tryd.prog 25 #[.int .u32 x, .slice (some ⟨g, 0, none⟩) l.length cap] w fun e W' => e = .returned (.int .u32 ((Sha.turnL x l : Nat) : Int)) ∧ w = W' := by
  obtain ⟨m, hm⟩ : ∃ m, l.length = m := ⟨_, rfl⟩
  rw [hm] at hl hc ⊢
  go_enter Tryd.func25, Tryd.ntmps25
  go_wp2
  go_loop [4, 9] (fun n i => ∃ k : Nat, k ≤ m ∧ i = .int .i64 k ∧ n = .int .u32 ((Sha.turnL x (l.take k) : Nat) : Int)) (fun _ i => m - (intOf i).toNat)
  case atStart => exact ⟨0, by omega, rfl, rfl⟩
  case round =>
    obtain ⟨k, hk, rfl, rfl⟩ := hrel
    by_cases hlt : k < m
    · have hc1 := hc k hlt
      obtain ⟨n, hx1⟩ : ∃ n, l.getD k 0 = n := ⟨_, rfl⟩
      have hkl : k < l.length := by omega
      have hnk : l[k] = n := by rw [← hx1]; simp [List.getD, hkl]
      have hn1 := hn n (by rw [← hnk]; exact List.getElem_mem hkl)
      have ht : l.take (k + 1) = l.take k ++ [n] := by
        rw [List.take_succ_eq_append_getElem hkl, hnk]
      have hs := Sha.turnL_snoc x (l.take k) n
      rw [← ht] at hs
      rw [hx1] at hc1
      have ho := Sha.turnL_lt x hx (l.take k)
      have hr := Sha.rotr_lt x n hx
      have Hr := fun w => rot32_any x n w hx hn1.1 hn1.2
      have hxor := u32_xor (Sha.turnL x (l.take k)) (Sha.rotr x n) ho hr
      have hlt' : (k : Int) < (m : Int) := by omega
      have HS := Lib.hid hs
      clear hs hx1 hnk ht hc hm hkl
      generalize Sha.turnL x (l.take k) = o at *
      generalize Sha.rotr x n = q at *
      have hneg : IntKind.i64.wrap (-(n : Int)) = -(n : Int) := IntWalk.i64_in _ (by omega)
      go_wp2_with fail
      refine (Hr _).mono ?_
      rintro e w' ⟨rfl, rfl⟩
      go_wp2_with fail
      go_round
      case rel => exact ⟨k + 1, by omega, by go_num, by rw [HS.out]⟩
      case measure => simp [intOf]; omega
    · obtain rfl : k = m := by omega
      go_wp2
      go_ret
      exact ⟨ret_int (by rw [List.take_of_length_le (by omega)]), rfl⟩

theorem num_bits (n x : Nat) (hn : n < 4294967296) (hx : x < 256) :
    bits .or .u32 ((n : Int) * 256 % 4294967296) ((x : Int) % 4294967296) = (((n * 256 % 4294967296) ||| x : Nat) : Int) := by
  have h1 : (x : Int) % 4294967296 = (x : Int) := by omega
  have h2 : (n : Int) * 256 % 4294967296 = ((n * 256 % 4294967296 : Nat) : Int) := by omega
  rw [h1, h2, u32_or _ _ (Nat.mod_lt _ (by decide)) (by omega)]

set_option maxRecDepth 100000 in
set_option maxHeartbeats 2000000 in
theorem number_any (g off cap : Nat) (l : List UInt8) (hl : l.length = 4) (w : World) (hc : ∀ i, i < 4 → w.cell? ⟨g, off + i, none⟩ = some (.int .u8 ((l.getD i 0).toNat : Int))) :
    Calls Tryd.prog 24 #[.slice (some ⟨g, off, none⟩) 4 cap] w fun e W' => e = .returned (.int .u32 ((Sha.num l : Nat) : Int)) ∧ w = W' := by
  go_enter Tryd.func24, Tryd.ntmps24
  go_wp2
  go_loop [2, 7] (fun n i => ∃ k : Nat, k ≤ 4 ∧ i = .int .i64 k ∧ n = .int .u32 ((Sha.num (l.take k) : Nat) : Int)) (fun _ i => 4 - (intOf i).toNat)
  case atStart => exact ⟨0, by omega, rfl, rfl⟩
  case round =>
    obtain ⟨k, hk, rfl, rfl⟩ := hrel
    by_cases hlt : k < 4
    · have hc1 := hc k hlt
      obtain ⟨x, hx⟩ : ∃ x, l.getD k 0 = x := ⟨_, rfl⟩
      have ht : l.take (k + 1) = l.take k ++ [x] := by
        rw [List.take_succ_eq_append_getElem (by omega), ← hx]
        simp [List.getD, show k < l.length by omega]
      have hn := Sha.num_lt (l.take k)
      have hs := Sha.num_snoc (l.take k) x
      rw [← ht] at hs
      rw [hx] at hc1
      have hlt' : (k : Int) < 4 := by omega
      have hb := num_bits (Sha.num (l.take k)) x.toNat hn x.toNat_lt
      have HS := Lib.hid hs
      clear hs hx ht hc
      generalize Sha.num (l.take k) = n at *
      go_wp2
      go_round
      case rel => exact ⟨k + 1, by omega, by go_num, by rw [HS.out]⟩
      case measure => simp [intOf]; omega
    · obtain rfl : k = 4 := by omega
      go_wp2
      go_ret
      exact ⟨ret_int (by rw [List.take_of_length_le (by omega)]), rfl⟩
end Go.Proofs.YtkgbecgdappjoaaDoor
