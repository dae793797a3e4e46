/- pick, the turned numbers, bytes' numbers, by their walks. -/
import Derived.Test.YtkgbecgdappjoaaDoorProg
import Derived.Test.YtkgbecgdappjoaaDoorSl
import Derived.Test.YtkgbecgdappjoaaDoorShA
namespace Go.Proofs.YtkgbecgdappjoaaDoor
open Go.RowKit Go.Shelf
set_option linter.unusedVariables false
set_option linter.unusedSimpArgs false

/-- 'pick': which of n things a raw number speaks of. -/
def pickS (c n : Int) : Int := (if c < 0 then -(c + 1) else c) % n
theorem pickS_bd (c n : Int) (hn : 1 ≤ n) : 0 ≤ pickS c n ∧ pickS c n < n := by
  unfold pickS
  exact ⟨Int.emod_nonneg _ (by omega), Int.emod_lt_of_pos _ (by omega)⟩
set_option maxHeartbeats 400000 in
theorem pick_any (c n : Int) (w : World) (hn : 1 ≤ n) (hn2 : n ≤ 1000000) (hc : -9223372036854775808 ≤ c) (hc2 : c ≤ 9223372036854775807) :
    Calls Tryd.prog 9 #[.int .i64 c, .int .i64 n] w fun e w' => e = .returned (.int .i64 (pickS c n)) ∧ w = w' := by
  by_cases h : c < 0
  · go_enter Tryd.func9, Tryd.ntmps9
    go_wp2
    go_ret
    refine ⟨ret_int ?_, rfl⟩
    rw [pickS, if_pos h, ← Int.neg_tmod]
    exact Int.tmod_eq_emod_of_nonneg (by omega)
  · go_enter Tryd.func9, Tryd.ntmps9
    go_wp2
    go_ret
    refine ⟨ret_int ?_, rfl⟩
    rw [pickS, if_neg (by omega)]
theorem pick_nat (c : Int) (n : Nat) (w : World) (hn : 1 ≤ n) (hn2 : n ≤ 1000000) (hc : -9223372036854775808 ≤ c) (hc2 : c ≤ 9223372036854775807) :
    ∃ k : Nat, k < n ∧ ∀ w, Calls Tryd.prog 9 #[.int .i64 c, .int .i64 n] w fun e W' => e = .returned (.int .i64 k) ∧ w = W' := by
  have hb := pickS_bd c n (by omega)
  refine ⟨(pickS c n).toNat, by omega, fun w => ?_⟩
  rw [show (((pickS c n).toNat : Nat) : Int) = pickS c n from by omega]
  exact pick_any c n w (by omega) (by omega) hc hc2

theorem and31 (k : Nat) (hk : k < 18446744073709551616) : bits .and .u64 (k : Int) 31 = ((k % 32 : Nat) : Int) := by
  have h31 : (BitVec.ofInt 64 (31 : Int)).toNat = 31 := by decide
  have h1 : (BitVec.ofInt 64 (k : Int)).toNat = k := by
    rw [BitVec.ofInt_natCast, BitVec.toNat_ofNat]; exact Nat.mod_eq_of_lt (by omega)
  show IntKind.u64.wrap ((BitVec.ofInt 64 (k : Int) &&& BitVec.ofInt 64 (31 : Int)).toNat : Int) = _
  rw [BitVec.toNat_and, h1, h31, show (31 : Nat) = 2 ^ 5 - 1 from rfl, Nat.and_two_pow_sub_one_eq_mod, IntKind.wrap_u64]
  omega
theorem u32_bv (x : Nat) (hx : x < 4294967296) : (BitVec.ofInt 32 (x : Int)).toNat = x := by
  rw [BitVec.ofInt_natCast, BitVec.toNat_ofNat]; exact Nat.mod_eq_of_lt (by omega)
theorem u32_or (x y : Nat) (hx : x < 4294967296) (hy : y < 4294967296) : bits .or .u32 (x : Int) (y : Int) = ((x ||| y : Nat) : Int) := by
  show IntKind.u32.wrap ((BitVec.ofInt 32 (x : Int) ||| BitVec.ofInt 32 (y : Int)).toNat : Int) = _
  rw [BitVec.toNat_or, u32_bv x hx, u32_bv y hy, IntKind.wrap_u32]
  have : x ||| y < 2 ^ 32 := Nat.or_lt_two_pow hx hy
  omega
theorem u32_xor (x y : Nat) (hx : x < 4294967296) (hy : y < 4294967296) : bits .xor .u32 (x : Int) (y : Int) = ((x ^^^ y : Nat) : Int) := by
  show IntKind.u32.wrap ((BitVec.ofInt 32 (x : Int) ^^^ BitVec.ofInt 32 (y : Int)).toNat : Int) = _
  rw [BitVec.toNat_xor, u32_bv x hx, u32_bv y hy, IntKind.wrap_u32]
  have : x ^^^ y < 2 ^ 32 := Nat.xor_lt_two_pow hx hy
  omega
theorem u32_and (x y : Nat) (hx : x < 4294967296) (hy : y < 4294967296) : bits .and .u32 (x : Int) (y : Int) = ((x &&& y : Nat) : Int) := by
  show IntKind.u32.wrap ((BitVec.ofInt 32 (x : Int) &&& BitVec.ofInt 32 (y : Int)).toNat : Int) = _
  rw [BitVec.toNat_and, u32_bv x hx, u32_bv y hy, IntKind.wrap_u32]
  have : x &&& y ≤ x := Nat.and_le_left
  omega
theorem rot_bits (x n : Nat) (hx : x < 4294967296) (hn : n ≤ 32) :
    bits .or .u32 (IntKind.u32.wrap ((x : Int) * 2 ^ (32 - n))) ((x : Int) / 2 ^ n) = ((Sha.rotr x n : Nat) : Int) := by
  have h1 : IntKind.u32.wrap ((x : Int) * 2 ^ (32 - n)) = ((x * 2 ^ (32 - n) % 4294967296 : Nat) : Int) := by
    rw [IntKind.wrap_u32, Int.natCast_emod, Int.natCast_mul, Int.natCast_pow]
    rfl
  have h2 : (x : Int) / 2 ^ n = ((x / 2 ^ n : Nat) : Int) := by
    rw [Int.natCast_ediv, Int.natCast_pow]
    rfl
  rw [h1, h2, u32_or _ _ (Nat.mod_lt _ (by decide)) (Nat.lt_of_le_of_lt (Nat.div_le_self _ _) hx)]
  rfl

set_option maxHeartbeats 400000 in
theorem rot32_any (x n : Nat) (w : World) (hx : x < 4294967296) (hn : 1 ≤ n) (hn2 : n ≤ 31) :
    Calls Tryd.prog 29 #[.int .u32 x, .int .i64 (-(n : Int))] w fun e w' => e = .returned (.int .u32 ((Sha.rotr x n : Nat) : Int)) ∧ w = w' := by
  obtain ⟨N, hN⟩ : ∃ N, 18446744073709551616 - n = N := ⟨_, rfl⟩
  obtain ⟨s, hs⟩ : ∃ s, 32 - n = s := ⟨_, rfl⟩
  have hb := and31 N (by omega)
  have hw : IntKind.u64.wrap (-(n : Int)) = (N : Int) := by rw [IntKind.wrap_u64]; omega
  rw [show N % 32 = s from by omega] at hb
  have hs32 : s ≤ 31 := by omega
  have hs32' : (s : Int) ≤ 31 := by omega
  have hns := Lib.hid (show n = 32 - s from by omega)
  clear hN hs
  go_enter Tryd.func29, Tryd.ntmps29
  go_wp2
  go_ret
  refine ⟨ret_int ?_, rfl⟩
  rw [hns.out]
  have h := rot_bits x (32 - s) hx (by omega)
  rw [show 32 - (32 - s) = s from by omega] at h
  exact h
end Go.Proofs.YtkgbecgdappjoaaDoor
