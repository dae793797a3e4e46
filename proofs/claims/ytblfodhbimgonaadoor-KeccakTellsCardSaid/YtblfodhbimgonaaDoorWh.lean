/- low, by its walk. -/
import Derived.Test.YtblfodhbimgonaaDoorWg
namespace Go.Proofs.YtblfodhbimgonaaDoor
open Go.RowKit Go.Shelf
set_option linter.unusedVariables false
set_option linter.unusedSimpArgs false

theorem low_bits (n x k : Nat) (hn : n < 18446744073709551616) (hx : x < 256) (hv : x * 2 ^ k < 18446744073709551616) :
    bits .or .u64 (n : Int) (IntKind.u64.wrap (IntKind.u64.wrap (x : Int) * 2 ^ k)) = ((n ||| x * 2 ^ k : Nat) : Int) := by
  have h1 : IntKind.u64.wrap (x : Int) = (x : Int) := by rw [IntKind.wrap_u64]; omega
  have h2 : IntKind.u64.wrap ((x : Int) * 2 ^ k) = ((x * 2 ^ k : Nat) : Int) := by
    rw [IntKind.wrap_u64, show ((x : Int) * 2 ^ k) = ((x * 2 ^ k : Nat) : Int) from by simp]
    omega
  rw [h1, h2, u64_or_nat _ _ hn hv]

set_option maxRecDepth 100000 in
set_option maxHeartbeats 2000000 in
theorem low_any (g off cap : Nat) (l : List UInt8) (hl : l.length = 8) (w : World) (hc : ∀ i, i < 8 → w.cell? ⟨g, off + i, none⟩ = some (.int .u8 ((l.getD i 0).toNat : Int))) :
    Calls Tryd.prog 28 #[.slice (some ⟨g, off, none⟩) 8 cap] w fun e W' => e = .returned (.int .u64 ((Kec.lowN l : Nat) : Int)) ∧ w = W' := by
  go_enter Tryd.func28, Tryd.ntmps28
  go_wp2
  go_loop [2, 7] (fun n i => ∃ k : Nat, k ≤ 8 ∧ i = .int .i64 k ∧ n = .int .u64 ((Kec.lowN (l.take k) : Nat) : Int)) (fun _ i => 8 - (intOf i).toNat)
  case atStart => exact ⟨0, by omega, rfl, rfl⟩
  case round =>
    obtain ⟨k, hk, rfl, rfl⟩ := hrel
    by_cases hlt : k < 8
    · have hc1 := hc k hlt
      obtain ⟨x, hx⟩ : ∃ x, l.getD k 0 = x := ⟨_, rfl⟩
      have ht : l.take (k + 1) = l.take k ++ [x] := by
        rw [List.take_succ_eq_append_getElem (by omega), ← hx]
        simp [List.getD, show k < l.length by omega]
      have hn := Kec.lowN_lt (l.take k)
      have hlk : (l.take k).length = k := by rw [List.length_take]; omega
      have hs := Kec.lowN_or (l.take k) x
      rw [← ht] at hs
      rw [hlk] at hn hs
      rw [hx] at hc1
      clear hx ht hc
      have hp : (256 : Nat) ^ k ≤ 256 ^ 7 := Nat.pow_le_pow_right (by omega) (by omega)
      have hn2 : Kec.lowN (l.take k) < 18446744073709551616 := Nat.lt_of_lt_of_le hn (Nat.le_trans hp (by decide))
      have hv : x.toNat * 2 ^ (8 * k) < 18446744073709551616 := by
        have h1 : x.toNat < 256 := x.toNat_lt
        rw [← Kec.pow256]
        calc x.toNat * 256 ^ k ≤ 255 * 256 ^ k := Nat.mul_le_mul_right _ (by omega)
          _ ≤ 255 * 256 ^ 7 := Nat.mul_le_mul_left _ hp
          _ < 18446744073709551616 := by decide
      have HS := Lib.hid hs
      clear hs hn hp
      clear hlk
      generalize Kec.lowN (l.take k) = n at *
      go_wp2
      go_round
      case rel => exact ⟨k + 1, by omega, by go_num, by rw [HS.out, low_bits _ _ _ hn2 x.toNat_lt hv]⟩
      case measure => simp [intOf]; omega
    · obtain rfl : k = 8 := by omega
      go_wp2
      go_ret
      exact ⟨ret_int (by rw [List.take_of_length_le (by omega)]), rfl⟩
end Go.Proofs.YtblfodhbimgonaaDoor
