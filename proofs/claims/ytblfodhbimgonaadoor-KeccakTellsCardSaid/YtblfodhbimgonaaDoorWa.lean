/- The small functions of the keccak seat, each by its walk. -/
import Derived.Test.YtblfodhbimgonaaDoorProg
import Derived.Test.YtblfodhbimgonaaDoorKecA
import Derived.Test.YtblfodhbimgonaaDoorMem
namespace Go.Proofs.YtblfodhbimgonaaDoor
open Go.RowKit
set_option linter.unusedVariables false
set_option linter.unusedSimpArgs false

/-- 'pick': which of n things a raw number speaks of. -/
def pickS (c n : Int) : Int := (if c < 0 then -(c + 1) else c) % n
theorem pickS_bd (c n : Int) (hn : 1 ≤ n) : 0 ≤ pickS c n ∧ pickS c n < n := by
  unfold pickS
  exact ⟨Int.emod_nonneg _ (by omega), Int.emod_lt_of_pos _ (by omega)⟩

set_option maxHeartbeats 400000 in
theorem pick_any (c n : Int) (w : World) (hn : 1 ≤ n) (hn2 : n ≤ 1000000) (hc : -9223372036854775808 ≤ c) (hc2 : c ≤ 9223372036854775807) :
    Calls Tryd.prog 13 #[.int .i64 c, .int .i64 n] w fun e w' => e = .returned (.int .i64 (pickS c n)) ∧ w = w' := by
  by_cases h : c < 0
  · go_enter Tryd.func13, Tryd.ntmps13
    go_wp2
    go_ret
    refine ⟨ret_int ?_, rfl⟩
    rw [pickS, if_pos h, ← Int.neg_tmod]
    exact Int.tmod_eq_emod_of_nonneg (by omega)
  · go_enter Tryd.func13, Tryd.ntmps13
    go_wp2
    go_ret
    refine ⟨ret_int ?_, rfl⟩
    rw [pickS, if_neg (by omega)]

theorem lane_any (x y : Int) (w : World) (hx : 0 ≤ x) (hx2 : x ≤ 1000) (hy : 0 ≤ y) (hy2 : y ≤ 1000) :
    Calls Tryd.prog 31 #[.int .i64 x, .int .i64 y] w fun e w' => e = .returned (.int .i64 (5 * (y % 5) + x % 5)) ∧ w = w' := by
  go_enter Tryd.func31, Tryd.ntmps31
  go_wp2
  go_ret
  exact ⟨rfl, rfl⟩

/-- 'at': the place of a bit. -/
def atS (x y z : Int) : Int := 64 * (5 * ((y + 5) % 5) + (x + 5) % 5) + (z + 64) % 64
theorem at_any (x y z : Int) (w : World) (hx : 0 ≤ x) (hx2 : x ≤ 1000) (hy : 0 ≤ y) (hy2 : y ≤ 1000) (hz : -64 ≤ z) (hz2 : z ≤ 1000) :
    Calls Tryd.prog 33 #[.int .i64 x, .int .i64 y, .int .i64 z] w fun e w' => e = .returned (.int .i64 (atS x y z)) ∧ w = w' := by
  go_enter Tryd.func33, Tryd.ntmps33
  go_wp2
  go_ret
  refine ⟨ret_int ?_, rfl⟩
  unfold atS
  omega

theorem places_any (w : World) :
    Calls Tryd.prog 30 #[] w fun e w' => e = .returned (.func (.func 35) #[] #[]) ∧ w = w' := by
  go_enter Tryd.func30, Tryd.ntmps30
  go_wp2
  go_ret
  exact ⟨rfl, rfl⟩

theorem and63 (k : Nat) (hk : k < 18446744073709551616) : bits .and .u64 (k : Int) 63 = ((k % 64 : Nat) : Int) := by
  have h63 : (BitVec.ofInt 64 (63 : Int)).toNat = 63 := by decide
  have h1 : (BitVec.ofInt 64 (k : Int)).toNat = k := by
    rw [BitVec.ofInt_natCast, BitVec.toNat_ofNat]; exact Nat.mod_eq_of_lt (by omega)
  show IntKind.u64.wrap ((BitVec.ofInt 64 (k : Int) &&& BitVec.ofInt 64 (63 : Int)).toNat : Int) = _
  rw [BitVec.toNat_and, h1, h63, show (63 : Nat) = 2 ^ 6 - 1 from rfl, Nat.and_two_pow_sub_one_eq_mod, IntKind.wrap_u64]
  omega

theorem rot_bits (x s : Nat) (hx : x < 18446744073709551616) (hs : s ≤ 63) :
    bits .or .u64 (IntKind.u64.wrap ((x : Int) * 2 ^ s)) ((x : Int) / 2 ^ (64 - s)) = ((Kec.rotl x s : Nat) : Int) := by
  have h1 : IntKind.u64.wrap ((x : Int) * 2 ^ s) = ((x * 2 ^ s % 18446744073709551616 : Nat) : Int) := by
    rw [IntKind.wrap_u64, Int.natCast_emod, Int.natCast_mul, Int.natCast_pow]
    rfl
  have h2 : (x : Int) / 2 ^ (64 - s) = ((x / 2 ^ (64 - s) : Nat) : Int) := by
    rw [Int.natCast_ediv, Int.natCast_pow]
    rfl
  rw [h1, h2, u64_or_nat _ _ (Nat.mod_lt _ (by decide)) (Nat.lt_of_le_of_lt (Nat.div_le_self _ _) hx)]
  rfl

set_option maxHeartbeats 400000 in
theorem rotl_any (x : Nat) (k : Int) (w : World) (hx : x < 18446744073709551616) (hk : 0 ≤ k) (hk2 : k ≤ 1000) :
    Calls Tryd.prog 32 #[.int .u64 x, .int .i64 k] w fun e w' => e = .returned (.int .u64 ((Kec.rotl x (k.toNat % 64) : Nat) : Int)) ∧ w = w' := by
  obtain ⟨r, rfl⟩ := Int.eq_ofNat_of_zero_le hk
  have hb := and63 r (by omega)
  obtain ⟨s, hs⟩ : ∃ s, r % 64 = s := ⟨_, rfl⟩
  rw [hs] at hb
  have hs2 : s ≤ 63 := by omega
  have hs3 := Lib.hid hs
  clear hs
  go_enter Tryd.func32, Tryd.ntmps32
  go_wp2
  go_ret
  refine ⟨ret_int ?_, rfl⟩
  rw [show ((r : Int).toNat % 64) = r % 64 from by simp, hs3.out]
  exact rot_bits x s hx hs2
end Go.Proofs.YtblfodhbimgonaaDoor
